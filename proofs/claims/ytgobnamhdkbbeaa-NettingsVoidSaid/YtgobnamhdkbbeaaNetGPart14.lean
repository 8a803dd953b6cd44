/- Part 14 of what several laws stand on: Ring8p, Net4, OpenU16, QCell, LawNettingsRing, LawNettingsLeast, LedV. -/
import Derived.Test.YtgobnamhdkbbeaaNetGPart13
/- A ring of debts. (Plain.) -/
namespace Go.Proofs.Ytgobnamhdkbbeaa
set_option linter.unusedSimpArgs false
set_option linter.unusedVariables false
theorem MayD.many {F : List Flw} (h : MayD F) : ∀ x ∈ F, x.f ≤ 16 ∧ x.t ≤ 16 ∧ 0 ≤ x.n ∧ x.n ≤ 1099511627776 := fun x hx => by
  obtain ⟨i, hi, rfl⟩ := List.mem_iff_getElem.1 hx
  have := h.okX (List.getElem?_eq_getElem hi)
  exact ⟨by omega, by omega, by omega, by omega⟩
/-- The i-th debt of a ring of n. -/
def rgX (n i : Nat) (v : Int) : Flw := ⟨i + 1, if i + 1 = n then 1 else i + 2, v⟩
/-- The first k debts of a ring of n. -/
def rgL (n : Nat) (V : Nat → Int) (k : Nat) : List Flw := (List.range k).map fun i => rgX n i (V i)
theorem rgL_len (n : Nat) (V : Nat → Int) (k : Nat) : (rgL n V k).length = k := by simp [rgL]
theorem rgL_at {n : Nat} {V : Nat → Int} {k i : Nat} (h : i < k) : (rgL n V k)[i]? = some (rgX n i (V i)) := by simp [rgL, h]
theorem rgL_next (n : Nat) (V : Nat → Int) (k : Nat) : rgL n V (k + 1) = rgL n V k ++ [rgX n k (V k)] := by unfold rgL; rw [List.range_succ, List.map_append]; rfl
theorem rgL_get {n : Nat} {V : Nat → Int} {k i : Nat} {x : Flw} (h : (rgL n V k)[i]? = some x) : i < k ∧ x = rgX n i (V i) := by
  have hi := (List.getElem?_eq_some_iff.1 h).1
  rw [rgL_len] at hi
  rw [rgL_at hi] at h
  exact ⟨hi, (Option.some.inj h).symm⟩
theorem rgL_may {n k : Nat} {V : Nat → Int} (h3 : 3 ≤ n) (h16 : n ≤ 16) (hk : k ≤ n) (hV : ∀ i, i < k → 1 ≤ V i ∧ V i ≤ 65536) : MayD (rgL n V k) := by
  intro i x hi hx
  obtain ⟨h1, rfl⟩ := rgL_get hx
  have hv := hV i h1
  refine ⟨?_, fun y h0 hy => ?_⟩
  · by_cases e : i + 1 = n
    · simp [okD, mayP, rgX, e]; omega
    · simp [okD, mayP, rgX, e]; omega
  · obtain ⟨h2, rfl⟩ := rgL_get hy
    exact (cfF_lt _ _).2 (.inl (by show i - 1 + 1 < i + 1; omega))
def chD (p : Nat) : Int := if p ≤ 16 then -(p : Int) else -16
def rgD (n i0 p : Nat) : Int := if 1 ≤ p ∧ p ≤ n then (if i0 + 2 ≤ p then -((p : Int) - i0 - 2) else -((p : Int) + n - i0 - 2)) else 0
theorem rgD_step {n i0 i : Nat} (hi : i < n) (h0 : i0 < n) : rgD n i0 (i + 1) - rgD n i0 (if i + 1 = n then 1 else i + 2) = if i = i0 then 1 - (n : Int) else 1 := by
  by_cases e : i + 1 = n
  · rw [if_pos e]
    unfold rgD
    repeat' split
    all_goals omega
  · rw [if_neg e]
    unfold rgD
    repeat' split
    all_goals omega
/-- A chain has nothing to cancel. -/
theorem chain_done {n : Nat} {V : Nat → Int} (h3 : 3 ≤ n) (h16 : n ≤ 16) (hV : ∀ i, i < n - 1 → 1 ≤ V i ∧ V i ≤ 65536) : roundOf (edD (rgL n V (n - 1)) ((rgL n V (n - 1)).map Flw.n)) = [] := by
  refine no_round (edD_in (rgL_may h3 h16 (by omega) hV)) ⟨chD, fun i => by unfold chD; split <;> omega, fun e he => ?_⟩
  obtain ⟨i, x, m, h1, h2, h4⟩ := edD_mem.1 he
  obtain ⟨hi, rfl⟩ := rgL_get h1
  rw [List.getElem?_map, h1] at h2
  simp at h2
  subst h2
  rcases h4 with ⟨h4, rfl⟩ | ⟨h4, rfl⟩
  · show chD (if i + 1 = n then 1 else i + 2) ≤ chD (i + 1) + -1
    rw [if_neg (by omega : ¬ i + 1 = n)]
    unfold chD
    rw [if_pos (by omega), if_pos (by omega)]
    omega
  · exact absurd h4 (by show ¬ V i < V i; omega)
section
variable {n : Nat} {V : Nat → Int} (h3 : 3 ≤ n) (h16 : n ≤ 16) (hV : ∀ i, i < n → 1 ≤ V i ∧ V i ≤ 65536)
include h3 h16 hV
theorem ring_found : roundOf (edD (rgL n V n) ((rgL n V n).map Flw.n)) ≠ [] := fun hr => by
  obtain ⟨D, h1, h2⟩ := pot_of (rgL_may h3 h16 (Nat.le_refl _) hV) (by rw [rgL_len]; omega) hr
  have hstep : ∀ i, i < n → D (if i + 1 = n then 1 else i + 2) ≤ D (i + 1) - 1 := fun i hi => by
    have := h2 ⟨i + 1, if i + 1 = n then 1 else i + 2, -1⟩ (edD_mem.2 ⟨i, rgX n i (V i), V i, rgL_at hi, by rw [List.getElem?_map, rgL_at hi]; rfl, .inl ⟨by have := hV i hi; omega, rfl⟩⟩)
    simp only at this
    omega
  have hdown : ∀ i, i < n → D (i + 1) ≤ D 1 - (i : Int) := by
    intro i
    induction i with
    | zero => intro _; simp
    | succ i ih =>
      intro hi
      have a1 := ih (by omega)
      have a2 := hstep i (by omega)
      rw [if_neg (by omega)] at a2
      show D (i + 2) ≤ D 1 - ((i + 1 : Nat) : Int)
      omega
  have a1 := hdown (n - 1) (by omega)
  have a2 := hstep (n - 1) (by omega)
  rw [if_pos (by omega)] at a2
  omega
/-- The round of a ring takes each debt once. -/
theorem ring_steps {S : List (Nat × Bool)} (hS : StepsAre (rgL n V n) ((rgL n V n).map Flw.n) (roundOf (edD (rgL n V n) ((rgL n V n).map Flw.n))) S) : (∀ x ∈ S, x.2 = false ∧ x.1 < n) ∧ ∀ i, i < n → (i, false) ∈ S := by
  have hM := rgL_may h3 h16 (Nat.le_refl _) hV
  obtain ⟨tf, C, R⟩ := edD_rnd hM (ring_found h3 h16 hV)
  generalize hT : roundOf (edD (rgL n V n) ((rgL n V n).map Flw.n)) = T at *
  have hstep : ∀ k, k < T.length → ∃ i, i < n ∧ S[k]? = some (i, false) ∧ tf k = i + 1 ∧ tf ((k + 1) % T.length) = if i + 1 = n then 1 else i + 2 := by
    intro k hk
    have hm : (k + 1) % T.length < T.length := Nat.mod_lt _ (by omega)
    obtain ⟨i, b, e1, s1⟩ := hS.2 k hk
    rw [List.getD_eq_getElem?_getD, R.get k hk, List.getD_eq_getElem?_getD, R.get _ hm] at s1
    simp only [Option.getD_some] at s1
    obtain ⟨x, m, x1, x2, x3⟩ := s1
    obtain ⟨hi, rfl⟩ := rgL_get x1
    rw [List.getElem?_map, x1] at x2
    simp at x2
    subst x2
    rcases x3 with ⟨rfl, e2, e3, _⟩ | ⟨_, _, _, e4, _⟩
    · exact ⟨i, hi, e1, e2.symm, e3.symm⟩
    · omega
  refine ⟨fun x hx => ?_, ?_⟩
  · obtain ⟨k, hk, rfl⟩ := List.mem_iff_getElem.1 hx
    obtain ⟨i, h1, h2, _⟩ := hstep k (by rw [← hS.1]; exact hk)
    rw [List.getElem?_eq_getElem hk] at h2
    rw [Option.some.inj h2]
    exact ⟨rfl, h1⟩
  · -- all are reached
    have key : ∀ d, ∀ k, k < T.length → ∃ k', k' < T.length ∧ (tf k' : Nat) = (tf k - 1 + d) % n + 1 := by
      intro d
      induction d with
      | zero =>
        intro k hk
        obtain ⟨i, h1, _, h2, _⟩ := hstep k hk
        exact ⟨k, hk, by rw [h2, Nat.add_sub_cancel, show i + 0 = i from rfl, Nat.mod_eq_of_lt h1]⟩
      | succ d ih =>
        intro k hk
        obtain ⟨k', h1, h2⟩ := ih k hk
        obtain ⟨i, g1, _, g2, g3⟩ := hstep k' h1
        refine ⟨(k' + 1) % T.length, Nat.mod_lt _ (by omega), ?_⟩
        have hi : i = (tf k - 1 + d) % n := by omega
        rw [g3, ← Nat.add_assoc, Nat.add_mod, ← hi, Nat.mod_eq_of_lt (by omega : 1 < n)]
        split
        · rename_i e; rw [e, Nat.mod_self]
        · rw [Nat.mod_eq_of_lt (by omega)]
    intro i hi
    obtain ⟨i0, g1, _, g2, _⟩ := hstep 0 (by have := R.pos; omega)
    obtain ⟨k', h1, h2⟩ := key (i + n - i0) 0 (by have := R.pos; omega)
    rw [g2, Nat.add_sub_cancel, show i0 + (i + n - i0) = i + n by omega, Nat.add_mod_right, Nat.mod_eq_of_lt hi] at h2
    obtain ⟨j, j1, j2, j3, _⟩ := hstep k' h1
    obtain rfl : j = i := by omega
    exact List.mem_of_getElem? j2
/-- The least of the first ones. -/
def lsV (V : Nat → Int) : Nat → Int
  | 0 => 1099511627776
  | k + 1 => min (lsV V k) (V k)
omit h3 h16 hV in
theorem lsV_le (V : Nat → Int) : ∀ k, lsV V k ≤ 1099511627776 ∧ ∀ i, i < k → lsV V k ≤ V i
  | 0 => ⟨Int.le_refl _, fun i hi => by omega⟩
  | k + 1 => by
    have ih := lsV_le V k
    refine ⟨by rw [lsV]; omega, fun i hi => ?_⟩
    by_cases e : i = k
    · subst e; rw [lsV]; omega
    · have := ih.2 i (by omega); rw [lsV]; omega
omit h3 h16 hV in
theorem lsV_is (V : Nat → Int) : ∀ k, lsV V k = 1099511627776 ∨ ∃ i, i < k ∧ lsV V k = V i
  | 0 => .inl rfl
  | k + 1 => by
    by_cases h : lsV V k ≤ V k
    · have e : lsV V (k + 1) = lsV V k := by rw [lsV]; omega
      rw [e]
      rcases lsV_is V k with h1 | ⟨i, h1, h2⟩
      · exact .inl h1
      · exact .inr ⟨i, by omega, h2⟩
    · exact .inr ⟨k, by omega, by rw [lsV]; omega⟩
omit h3 h16 hV in
theorem minS_is (F : List Flw) (N : List Int) : ∀ (S : List (Nat × Bool)) (m : Int), minS F N m S = m ∨ ∃ x ∈ S, minS F N m S = mostS F N x.1 x.2
  | [], m => .inl rfl
  | (j, c) :: S, m => by
    rw [minS]
    rcases minS_is F N S (min m (mostS F N j c)) with h | ⟨x, hx, h⟩
    · by_cases e : m ≤ mostS F N j c
      · left; rw [h]; omega
      · right; exact ⟨(j, c), List.mem_cons_self, by rw [h]; simp only; omega⟩
    · exact .inr ⟨x, List.mem_cons_of_mem _ hx, h⟩
theorem ring_once : ∃ N', RdTr (rgL n V n) 1 N' ∧ N' = ((rgL n V n).map Flw.n).map (· - lsV V n) ∧ roundOf (edD (rgL n V n) N') = [] := by
  have hM := rgL_may h3 h16 (Nat.le_refl _) hV
  have hne := ring_found h3 h16 hV
  have I := InvN.start hM
  obtain ⟨S, h1, h2, hnd, _⟩ := round_go hM I hne
  obtain ⟨s1, s2⟩ := ring_steps h3 h16 hV h1
  have hN : ∀ i, i < n → ((rgL n V n).map Flw.n)[i]? = some (V i) := fun i hi => by rw [List.getElem?_map, rgL_at hi]; rfl
  have hmost : ∀ i, i < n → mostS (rgL n V n) ((rgL n V n).map Flw.n) i false = V i := fun i hi => by
    unfold mostS
    rw [if_neg (by simp), List.getD_eq_getElem?_getD, hN i hi]; rfl
  have hmin : minS (rgL n V n) ((rgL n V n).map Flw.n) 1099511627776 S = lsV V n := by
    have a1 := minS_le (rgL n V n) ((rgL n V n).map Flw.n) S 1099511627776
    have a2 := lsV_le V n
    have b1 := minS_is (rgL n V n) ((rgL n V n).map Flw.n) S 1099511627776
    have b2 := lsV_is V n
    have c1 : lsV V n ≤ minS (rgL n V n) ((rgL n V n).map Flw.n) 1099511627776 S := by
      rcases b1 with e | ⟨x, hx, e⟩
      · rw [e]; exact a2.1
      · obtain ⟨e1, e2⟩ := s1 x hx
        rw [e, e1, hmost x.1 e2]
        exact a2.2 x.1 e2
    have c2 : minS (rgL n V n) ((rgL n V n).map Flw.n) 1099511627776 S ≤ lsV V n := by
      rcases b2 with e | ⟨i, hi, e⟩
      · rw [e]; exact a1.1
      · rw [e]
        have := a1.2 (i, false) (s2 i hi)
        rw [hmost i hi] at this
        exact this
    omega
  have hN' : goS (lsV V n) S ((rgL n V n).map Flw.n) = ((rgL n V n).map Flw.n).map (· - lsV V n) := by
    apply List.ext_getElem?
    intro i
    by_cases hi : i < n
    · rw [goS_at _ i false S _ hnd (s2 i hi) (by rw [List.length_map, rgL_len]; exact hi), List.getElem?_map, hN i hi, List.getD_eq_getElem?_getD, hN i hi]
      simp
      omega
    · rw [List.getElem?_eq_none (by rw [goS_len, List.length_map, rgL_len]; omega), List.getElem?_eq_none (by simp [rgL_len]; omega)]
  refine ⟨_, .step .nil hne ⟨S, h1, rfl⟩, by rw [hmin]; exact hN', ?_⟩
  rw [hmin, hN']
  have hl1 : ∃ i, i < n ∧ lsV V n = V i := by
    rcases lsV_is V n with e | h
    · have := (lsV_le V n).2 0 (by omega)
      have := hV 0 (by omega)
      omega
    · exact h
  obtain ⟨i0, hi0, e0⟩ := hl1
  refine no_round (edD_in hM) ⟨rgD n i0, fun p => by unfold rgD; split <;> (try split) <;> omega, fun e he => ?_⟩
  obtain ⟨i, x, m, g1, g2, g4⟩ := edD_mem.1 he
  obtain ⟨hi, rfl⟩ := rgL_get g1
  rw [List.getElem?_map, hN i hi] at g2
  simp at g2
  subst g2
  have hv := hV i hi
  have hle := (lsV_le V n).2 i hi
  have hpos : 1 ≤ lsV V n := by rw [e0]; exact (hV i0 hi0).1
  have hki : 0 < V i - lsV V n → i ≠ i0 := fun h e => by subst e; omega
  rcases g4 with ⟨g4, rfl⟩ | ⟨g4, rfl⟩
  · have hk := hki g4
    show rgD n i0 (if i + 1 = n then 1 else i + 2) ≤ rgD n i0 (i + 1) + -1
    have := rgD_step hi hi0
    rw [if_neg hk] at this
    omega
  · show rgD n i0 (i + 1) ≤ rgD n i0 (if i + 1 = n then 1 else i + 2) + 1
    have := rgD_step hi hi0
    by_cases e : i = i0
    · rw [if_pos e] at this; omega
    · rw [if_neg e] at this; omega
end
theorem sum_sub (v : Int) : ∀ N : List Int, (N.map (· - v)).sum = N.sum - v * (N.length : Int)
  | [] => by simp
  | m :: N => by
    have ih := sum_sub v N
    rw [List.map_cons, List.sum_cons, List.sum_cons, ih, List.length_cons, Int.natCast_add, Int.mul_add]
    simp only [Int.natCast_one, Int.mul_one]
    omega
end Go.Proofs.Ytgobnamhdkbbeaa

/- A ledger where each owes the next one, round. (Plain.) -/
namespace Go.Proofs.Ytgobnamhdkbbeaa
set_option linter.unusedSimpArgs false
set_option linter.unusedVariables false
set_option linter.unusedSectionVars false
def nxR (n i : Nat) : Nat := if i + 1 = n then 1 else i + 2
theorem nxR_mod {n i : Nat} (h : i < n) : (i + 1) % n + 1 = nxR n i := by
  unfold nxR
  split
  · rename_i e; rw [e, Nat.mod_self]
  · rw [Nat.mod_eq_of_lt (by omega)]
theorem nxR_in {n i : Nat} (h : i < n) : 1 ≤ nxR n i ∧ nxR n i ≤ n := by unfold nxR; split <;> omega
def rgN (n c : Nat) (V : Nat → Int) (i : Nat) : Lin := ⟨(nxR n i : Nat), ((i + 1 : Nat) : Int), (c : Int), V i, V i⟩
def parN (k : Nat) : List Int := (List.range k).map fun i => ((i + 1 : Nat) : Int)
theorem parN_mem {k : Nat} {p : Int} : p ∈ parN k ↔ 1 ≤ p ∧ p ≤ (k : Int) := by
  unfold parN
  rw [List.mem_map]
  constructor
  · rintro ⟨i, hi, rfl⟩
    have := List.mem_range.1 hi
    omega
  · rintro ⟨h1, h2⟩
    exact ⟨(p - 1).toNat, List.mem_range.2 (by omega), by omega⟩
theorem parN_next (k : Nat) : parN (k + 1) = parN k ++ [((k + 1 : Nat) : Int)] := by unfold parN; rw [List.range_succ, List.map_append]; rfl
theorem open_next {k : Nat} (hk : k < 16) : openE ⟨parN k, []⟩ ((k + 1 : Nat) : Int) = 0 ∧ openS ⟨parN k, []⟩ ((k + 1 : Nat) : Int) = ⟨parN (k + 1), []⟩ := by
  have h1 : openE ⟨parN k, []⟩ ((k + 1 : Nat) : Int) = 0 := by
    unfold openE
    rw [if_neg (by omega), if_neg (by rw [parN_mem]; omega)]
  refine ⟨h1, ?_⟩
  unfold openS
  rw [if_pos h1, parN_next]
  unfold insP
  have e1 : (parN k).filter (fun q => decide (q < ((k + 1 : Nat) : Int))) = parN k := List.filter_eq_self.2 fun q hq => by have := parN_mem.1 hq; simp; omega
  have e2 : (parN k).filter (fun q => decide (((k + 1 : Nat) : Int) < q)) = [] := List.filter_eq_nil_iff.2 fun q hq => by have := parN_mem.1 hq; simp; omega
  rw [e1, e2]
structure RgI (n c : Nat) (V : Nat → Int) (S : Lgr) (i : Nat) : Prop where
  good : S.Good
  par : S.P = parN n
  mem : ∀ z, z ∈ S.L ↔ ∃ j, j < i ∧ z = rgN n c V j
  len : S.L.length ≤ i
theorem parN_good (k : Nat) (hk : k ≤ 16) : (⟨parN k, []⟩ : Lgr).Good := by
  induction k with
  | zero => exact Lgr.new_good
  | succ k ih =>
    have := (ih (by omega)).open ((k + 1 : Nat) : Int)
    rw [(open_next (by omega)).2] at this
    exact this
theorem RgI.start {n c : Nat} {V : Nat → Int} (h16 : n ≤ 16) : RgI n c V ⟨parN n, []⟩ 0 := ⟨parN_good n h16, rfl, fun z => by simp, Nat.le_refl _⟩
section
variable {n c : Nat} {V : Nat → Int} (h3 : 3 ≤ n) (h16 : n ≤ 16) (hV : ∀ i, i < n → 1 ≤ V i ∧ V i ≤ 65536) (hc : 1 ≤ c ∧ c ≤ 8)
include h3 h16 hV hc
theorem RgI.step {S : Lgr} {i : Nat} (R : RgI n c V S i) (hi : i < n) :
    trustE S (nxR n i : Nat) ((i + 1 : Nat) : Int) c (V i) = 0 ∧ pushE (trustS S (nxR n i : Nat) ((i + 1 : Nat) : Int) c (V i)) ((i + 1 : Nat) : Int) (nxR n i : Nat) c (V i) = 0 ∧
    RgI n c V (pushS (trustS S (nxR n i : Nat) ((i + 1 : Nat) : Int) c (V i)) ((i + 1 : Nat) : Int) (nxR n i : Nat) c (V i)) (i + 1) := by
  have hn := nxR_in hi
  have hne : nxR n i ≠ i + 1 := by unfold nxR; split <;> omega
  have hv := hV i hi
  have hl0 : isLine S.L (nxR n i : Nat) ((i + 1 : Nat) : Int) c = false := isLine_not.2 fun x hx => by
    obtain ⟨j, hj, rfl⟩ := (R.mem x).1 hx
    rw [Lin.at_not]
    simp only [rgN]
    omega
  have hd0 := (Lgr.Good.noLine hl0).2.2
  have hlen := R.len
  have t0 : trustE S (nxR n i : Nat) ((i + 1 : Nat) : Int) c (V i) = 0 := by
    unfold trustE badEnds
    rw [if_neg (by omega), if_neg (by rw [R.par, parN_mem, parN_mem]; omega), hd0, if_neg (by omega), if_neg (by omega)]
  have G1 := R.good.trust (nxR n i : Nat) ((i + 1 : Nat) : Int) c (V i)
  have hP1 : (trustS S (nxR n i : Nat) ((i + 1 : Nat) : Int) c (V i)).P = parN n := by rw [trust_P]; exact R.par
  have hm1 : ∀ z, z ∈ (trustS S (nxR n i : Nat) ((i + 1 : Nat) : Int) c (V i)).L ↔ (∃ j, j < i ∧ z = rgN n c V j) ∨ z = ⟨(nxR n i : Nat), ((i + 1 : Nat) : Int), c, V i, 0⟩ := by
    intro z
    unfold trustS
    rw [if_pos t0]
    simp only
    rw [setL_mem, R.mem, hd0]
    simp only
    constructor
    · rintro (⟨h, _⟩ | ⟨_, h⟩)
      · exact .inl h
      · exact .inr h
    · rintro (⟨j, hj, rfl⟩ | h)
      · refine .inl ⟨⟨j, hj, rfl⟩, ?_⟩
        have hnj := nxR_in (show j < n by omega)
        unfold Lin.rank rgN
        simp only
        omega
      · exact .inr ⟨by omega, h⟩
  have hl1 : (trustS S (nxR n i : Nat) ((i + 1 : Nat) : Int) c (V i)).L.length ≤ i + 1 := by
    unfold trustS
    rw [if_pos t0]
    simp only
    have := setL_len S.L ⟨(nxR n i : Nat), ((i + 1 : Nat) : Int), c, V i, debOf S.L (nxR n i : Nat) ((i + 1 : Nat) : Int) c⟩
    simp only at this
    rw [if_neg (by omega : ¬ V i = 0)] at this
    omega
  generalize trustS S (nxR n i : Nat) ((i + 1 : Nat) : Int) c (V i) = S1 at *
  have hx : (⟨(nxR n i : Nat), ((i + 1 : Nat) : Int), c, V i, 0⟩ : Lin) ∈ S1.L := (hm1 _).2 (.inr rfl)
  have hvals := G1.vals hx
  simp only at hvals
  have hrev : isLine S1.L ((i + 1 : Nat) : Int) (nxR n i : Nat) c = false := isLine_not.2 fun x hx => by
    rw [Lin.at_not]
    rcases (hm1 x).1 hx with ⟨j, hj, rfl⟩ | rfl
    · simp only [rgN]
      rintro ⟨e1, e2, _⟩
      have e3 : nxR n j = i + 1 := by omega
      have e4 : j + 1 = nxR n i := by omega
      unfold nxR at e3 e4
      split at e3 <;> split at e4 <;> omega
    · simp only
      omega
  have hr := Lgr.Good.noLine hrev
  have hfall : fallOf S1 ((i + 1 : Nat) : Int) (nxR n i : Nat) c (V i) = 0 := by unfold fallOf; rw [hr.2.2]; omega
  have p0 : pushE S1 ((i + 1 : Nat) : Int) (nxR n i : Nat) c (V i) = 0 := by
    unfold pushE roomOf
    rw [hr.2.2, hvals.2.1, hvals.2.2.1, if_neg (by omega), if_neg (by omega)]
  refine ⟨t0, p0, ⟨G1.push _ _ _ _, by rw [push_P]; exact hP1, fun z => ?_, ?_⟩⟩
  · rw [pushS_ok p0, hfall]
    simp only [Int.neg_zero, addL_zero, Int.sub_zero]
    unfold addL
    rw [List.mem_map]
    constructor
    · rintro ⟨x, hx, rfl⟩
      rcases (hm1 x).1 hx with ⟨j, hj, rfl⟩ | rfl
      · refine ⟨j, by omega, ?_⟩
        rw [if_neg]
        rw [Bool.not_eq_true, Lin.at_not]
        simp only [rgN]
        omega
      · refine ⟨i, by omega, ?_⟩
        rw [if_pos (Lin.at_iff.2 ⟨rfl, rfl, rfl⟩)]
        simp [rgN]
    · rintro ⟨j, hj, rfl⟩
      by_cases e : j = i
      · subst e
        refine ⟨_, hx, ?_⟩
        rw [if_pos (Lin.at_iff.2 ⟨rfl, rfl, rfl⟩)]
        simp [rgN]
      · refine ⟨rgN n c V j, (hm1 _).2 (.inl ⟨j, by omega, rfl⟩), ?_⟩
        rw [if_neg]
        rw [Bool.not_eq_true, Lin.at_not]
        simp only [rgN]
        omega
  · rw [pushS_ok p0, addL_len, addL_len]
    exact hl1
theorem RgI.dbt {S : Lgr} (R : RgI n c V S n) : dbtS S.L c = rgL n V n := by
  refine pw_ext cfF_asym (dbtS_pw _) (MayD.iff.1 (rgL_may h3 h16 (Nat.le_refl n) hV)).2 fun y => ?_
  rw [← keptD_mem R.good]
  unfold keptD
  rw [List.mem_map]
  constructor
  · rintro ⟨x, hx, rfl⟩
    obtain ⟨j, hj, rfl⟩ := (R.mem x).1 (List.mem_filter.1 hx).1
    have e : flwOf (rgN n c V j) = rgX n j (V j) := by unfold flwOf rgN rgX nxR; simp
    rw [e]
    exact List.mem_of_getElem? (rgL_at hj)
  · intro hy
    obtain ⟨j, hj, rfl⟩ := List.mem_iff_getElem.1 hy
    rw [rgL_len] at hj
    have e := (rgL_get (List.getElem?_eq_getElem (by rw [rgL_len]; exact hj : j < (rgL n V n).length))).2
    rw [e]
    have hv := hV j hj
    refine ⟨rgN n c V j, List.mem_filter.2 ⟨(R.mem _).2 ⟨j, hj, rfl⟩, ?_⟩, ?_⟩
    · unfold owes rgN; simp; omega
    · unfold flwOf rgN rgX nxR; simp
/-- The netting of a ring. -/
theorem RgI.net {S : Lgr} (R : RgI n c V S n) {g k e : Int} {S' : Lgr} (h : NetOut S c 1 g k e S') : e = 0 ∧ k = 1 ∧ g = lsV V n * (n : Int) ∧ S'.Good ∧ S'.L.map (fun x => { x with deb := 0 }) = S.L.map (fun x => { x with deb := 0 }) ∧
    (∀ i, i < n → debOf S'.L (nxR n i : Nat) ((i + 1 : Nat) : Int) c = V i - lsV V n) ∧ 1 ≤ lsV V n ∧ lsV V n ≤ 65536 := by
  have hD := R.dbt h3 h16 hV hc
  obtain ⟨N, ht, hN, hr⟩ := ring_once h3 h16 hV
  have hM := rgL_may h3 h16 (Nat.le_refl n) hV
  have ho : LeastOut 13 (dbtS S.L c) 1 (leftL (rgL n V n) N) 1 0 := by
    rw [hD]
    exact .inr ⟨hM, by omega, 1, N, ht, by omega, .inl ⟨hr, rfl, rfl, rfl⟩⟩
  have h1 : 1 ≤ lsV V n := by
    rcases lsV_is V n with e | ⟨i, hi, e⟩
    · rw [e]; omega
    · rw [e]; exact (hV i hi).1
  have h2 : lsV V n ≤ 65536 := by
    have a1 := (lsV_le V n).2 0 (by omega)
    have a2 := hV 0 (by omega)
    omega
  have I := (ht.inv hM).1
  have hs : sumF (leftL (rgL n V n) N) = sumF (rgL n V n) - lsV V n * (n : Int) := by
    have e1 : sumF (leftL (rgL n V n) N) = N.sum := leftL_sum I
    rw [e1, hN, sum_sub, List.length_map, rgL_len]
    rfl
  obtain ⟨h4, Q, k0, h5, h6⟩ : (1 ≤ c ∧ c ≤ 8) ∧ ∃ Q k0, LeastOut 13 (dbtS S.L c) 1 Q k0 e ∧ ((e ≠ 0 ∧ g = 0 ∧ k = 0 ∧ S' = S) ∨ (e = 0 ∧ k = k0 ∧ S' = forgL S c Q (dbtS S.L c) ∧ g = totL S.L c - totL S'.L c)) := by
    rcases h with ⟨h, _⟩ | h
    · omega
    · exact h
  obtain ⟨rfl, rfl, rfl⟩ := h5.det ho
  rcases h6 with ⟨h6, _⟩ | ⟨_, rfl, h7, h8⟩
  · omega
  have hg : NetOut S c 1 g 1 0 S' := .inr ⟨h4, _, _, h5, .inr ⟨rfl, rfl, h7, h8⟩⟩
  obtain ⟨_, _, M, g1⟩ := hg.gone R.good
  have J : InvN (dbtS S.L c) N := by rw [hD]; exact I
  have hS' : S' = ⟨S.P, netL S.L c (leftL (dbtS S.L c) N)⟩ := by
    rw [h7, ← forgL_all R.good J, hD]
  have e1 := R.good.tot_dbt c
  have e2 := g1.good.tot_dbt c
  rw [hD] at e1
  have e3 : dbtS S'.L c = leftL (rgL n V n) N := by rw [hS', ← hD]; exact dbt_net R.good J
  rw [e3] at e2
  refine ⟨rfl, rfl, by omega, g1.good, g1.lin, fun i hi => ?_, h1, h2⟩
  have hn := nxR_in hi
  rw [hS']
  simp only
  rw [debOf_net R.good J (i + 1) (nxR n i) (by omega) (by omega), hD]
  have := ofF_left hM I (rgL_at hi) (show N[i]? = some (V i - lsV V n) by rw [hN, List.getElem?_map, List.getElem?_map, rgL_at hi]; rfl)
  simpa [rgX, nxR] using this
end
end Go.Proofs.Ytgobnamhdkbbeaa

/- Lists of uint16 as arguments. -/
namespace Go.Proofs.Ytgobnamhdkbbeaa
open Go.ChangeShapes Go.WideShapes Go.ChangeAt Go.RowKit
set_option linter.unusedSimpArgs false
set_option linter.unusedVariables false
set_option maxRecDepth 100000
theorem flat_u16 : flat Try.prog 9 82 = some [82] := by kernel_rfl
theorem u16_cellsOf : Try.prog.cellsOf 82 = 1 := by kernel_rfl
theorem cell_u16r : CellTy 82 := ⟨⟨_, Try.underlying82, rfl⟩, by kernel_rfl⟩
/-- A list of uint16 that came in. -/
def U16sV (w : World) (v : Value) : Prop := ∃ (a : Option Addr) (n c : Nat) (Z : List Int), v = .slice a n c ∧ Z.length = n ∧ n ≤ c ∧ c ≤ maxLen ∧ Rd w a (Z.map (Value.int .u16)) ∧ ∀ z ∈ Z, 0 ≤ z ∧ z ≤ 65535
theorem u16s_of {w : World} : ∀ (n : Nat) (xs : List Value), xs.length = n * 1 → (∀ (i j : Nat) (u : TypeId), i < n → ([82] : List TypeId)[j]? = some u → ∃ v, xs[i * 1 + j]? = some v ∧ ∀ d, LeafOk Try.prog w d u v) → ∃ Z : List Int, Z.length = n ∧ xs = Z.map (Value.int .u16) ∧ ∀ z ∈ Z, 0 ≤ z ∧ z ≤ 65535
  | 0, xs, hl, _ => ⟨[], rfl, by simpa using hl, by simp⟩
  | n + 1, xs, hl, h => by
    rcases xs with _ | ⟨c0, ys⟩
    · simp at hl
    · obtain ⟨x0, h0, k0⟩ := h 0 0 _ (by omega) rfl
      simp at h0
      subst h0
      obtain ⟨z, rfl, hz⟩ := leaf_int Try.underlying82 k0
      obtain ⟨Z, hZ, rfl, hok⟩ := u16s_of n ys (by simp at hl; omega) (fun i j u hi hj => by
        obtain ⟨v, hv, hk⟩ := h (i + 1) j u (by omega) hj
        refine ⟨v, ?_, hk⟩
        rw [show (i + 1) * 1 + j = (i * 1 + j) + 1 by omega] at hv
        simpa using hv)
      exact ⟨z :: Z, by simp [hZ], rfl, fun y hy => by
        rcases List.mem_cons.1 hy with rfl | hy
        · exact bounds_u16 hz
        · exact hok y hy⟩
theorem open_u16sV {H : Type} {enc : TypeId × Value → H} {W : World} {held : Bool} {v : Value} {d : DataW H} {p : List MemPlace} {r : Reach} {b0 : Nat}
    (hval : Value.okWide Try.prog W r b0 80 v) (h : DataW.Trod enc Try.prog W 0 (fun _ => true) held 80 v d p) : U16sV W v := by
  have hk := fun d => open_sl Try.underlying80 hval h d
  obtain ⟨a, n, c, xs, rfl, hn, hc, hl, hr, _, hp⟩ := leaf_slice Try.underlying80 flat_u16 hk
  rw [u16_cellsOf] at hl hp
  obtain ⟨Z, hZ, rfl, hok⟩ := u16s_of (w := W) n xs hl hp
  exact ⟨a, n, c, Z, rfl, hZ, hn, hc, hr, hok⟩
def vR (Z : List Int) (i : Nat) : Int := Z.getD i 0 + 1
end Go.Proofs.Ytgobnamhdkbbeaa

/- A quiet read of one cell. -/
namespace Go.Proofs.Ytgobnamhdkbbeaa
open Go.RowKit
set_option linter.unusedSimpArgs false
set_option linter.unusedVariables false
set_option linter.unusedVariables false
section
variable {ops : Array Oper} {rest : List Oper} {a : Act} {w W : World} {l : List Thing}
theorem wpQ_loadCell {T : TypeId} {dst : Option Tmp} {ty : TypeId} {pos : String} {after : Array Edge} {guard : Option (Nat × Bool)} {x : Operand} {b off : Nat} {K : Act → Prop} {H : Heap W l w} (CT : CellTy T) (hw : Region.wanted ⟨dst, .load T x, ty, pos, after, guard⟩ (yielded ops a.tmps) = true) (hx : a.eval x = .pointer (some ⟨b, off, none⟩))
    {v : Value} (hc : ∀ w', Heap W l w' → w'.cell? ⟨b, off, none⟩ = some v)
    (h : wpQuiet Try.prog ops (fun w' => ∃ d, w' = H.any d) K rest (a.put dst v)) : wpQuiet Try.prog ops (fun w' => ∃ d, w' = H.any d) K (⟨dst, .load T x, ty, pos, after, guard⟩ :: rest) a := by
  refine BigFrame.wpQuiet_want hw fun K hK => ⟨v, ?_, hK _ h⟩
  rintro _ ⟨d, rfl⟩
  have hv := hc _ (H.any_heap d)
  simp only [World.cell?, if_true] at hv
  cases hb : (H.any d).heap[b]? with
  | none => rw [hb] at hv; cases hv
  | some o =>
    rw [hb] at hv
    cases o <;> first | (cases hv; done) | skip
    rename_i cs t f
    unfold Oper.quietAt execOp
    simp only [hx, Sem.run_bind, run_loadC CT hb hv]
    exact ⟨rfl, rfl⟩
end
section
variable {W w : World} {l : List Thing}
set_option maxRecDepth 100000
set_option maxHeartbeats 2000000
end
end Go.Proofs.Ytgobnamhdkbbeaa

/- NettingsRing: its walk. -/
namespace Go.Proofs.Ytgobnamhdkbbeaa
open Go.RowKit
set_option linter.unusedSimpArgs false
set_option linter.unusedVariables false
set_option maxRecDepth 100000
theorem lineC_deb (L : List Lin) (a b c : Int) : ∃ x1 x2 x3 x4, lineC L a b c = line x1 x2 x3 x4 (debOf L a b c) := by
  unfold lineC
  cases h : isLine L a b c with
  | true => exact ⟨_, _, _, _, if_pos rfl⟩
  | false => exact ⟨0, 0, 0, 0, by rw [if_neg (by simp), (Lgr.Good.noLine (S := ⟨[], L⟩) h).2.2]⟩
structure OpnR (W : World) (l : List Thing) (p q n : Nat) (i : Value) (wr : World) : Prop where
  out : ∃ k : Nat, k ≤ n ∧ i = .int .i64 (k : Int) ∧ Heap W (LdC p (parN k) (some q) :: LdM q [] :: l) wr
structure RingR (W : World) (l : List Thing) (p q n c : Nat) (V : Nat → Int) (m i : Value) (wr : World) : Prop where
  out : ∃ (k : Nat) (S : Lgr), k ≤ n ∧ i = .int .i64 (k : Int) ∧ m = .int .i64 (lsV V k) ∧ RgI n c V S k ∧ Heap W (LdC p S.P (some q) :: LdM q S.L :: l) wr
structure RestR (W : World) (l : List Thing) (n : Nat) (i : Value) (wr : World) : Prop where
  out : ∃ k : Nat, k ≤ n ∧ i = .int .i64 (k : Int) ∧ Heap W l wr
section
variable {W w : World} {l : List Thing}
set_option maxHeartbeats 8000000
attribute [local go_sem high] run_min2
theorem nettingsRing_H (a : Option Addr) (n ca c : Nat) (Z : List Int) (hl : Z.length = n) (h63 : n ≤ 9223372036854775807) (hc : c ≤ 255) (hZ : ∀ z ∈ Z, 0 ≤ z ∧ z ≤ 65535) (R : ∀ l' w', Heap W l' w' → Rd w' a (Z.map (Value.int .u16))) (H : Heap W l w) :
    Calls Try.prog 10 #[.slice a n ca, .int .u8 (c : Int)] w fun e w' => e = .returned (.bool true) ∧ Heap W [] w' := by
  have LV := fun l' w' (H : Heap W l' w') => lives13_H H
  go_enter Try.func10, Try.ntmps10
  by_cases hbad : n < 3 ∨ 16 < n ∨ c < 1 ∨ 8 < c
  · by_cases h3 : n < 3
    · have d1 : decide ((n : Int) < 3) = true := decide_eq_true (by omega)
      go_wp2_with (first | go_skip | (refine (LV _ _ H).mono ?_; clear H; rintro _ _ ⟨rfl, H⟩))
      go_ret
      exact ⟨rfl, H.nothing⟩
    · have d1 : decide ((n : Int) < 3) = false := decide_eq_false (by omega)
      by_cases h16 : 16 < n
      · have d2 : decide ((n : Int) > 16) = true := decide_eq_true (by omega)
        have d3 : decide (16 < (n : Int)) = true := decide_eq_true (by omega)
        go_wp2_with (first | go_skip | (refine (LV _ _ H).mono ?_; clear H; rintro _ _ ⟨rfl, H⟩))
        go_ret
        exact ⟨rfl, H.nothing⟩
      · have d2 : decide ((n : Int) > 16) = false := decide_eq_false (by omega)
        have d3 : decide (16 < (n : Int)) = false := decide_eq_false (by omega)
        by_cases h1 : c < 1
        · have d4 : decide ((c : Int) < 1) = true := decide_eq_true (by omega)
          go_wp2_with (first | go_skip | (refine (LV _ _ H).mono ?_; clear H; rintro _ _ ⟨rfl, H⟩))
          go_ret
          exact ⟨rfl, H.nothing⟩
        · have d4 : decide ((c : Int) < 1) = false := decide_eq_false (by omega)
          have d5 : decide ((c : Int) > 8) = true := decide_eq_true (by omega)
          have d6 : decide (8 < (c : Int)) = true := decide_eq_true (by omega)
          go_wp2_with (first | go_skip | (refine (LV _ _ H).mono ?_; clear H; rintro _ _ ⟨rfl, H⟩))
          go_ret
          exact ⟨rfl, H.nothing⟩
  · have d1 : decide ((n : Int) < 3) = false := decide_eq_false (by omega)
    have d2 : decide ((n : Int) > 16) = false := decide_eq_false (by omega)
    have d3 : decide (16 < (n : Int)) = false := decide_eq_false (by omega)
    have d4 : decide ((c : Int) < 1) = false := decide_eq_false (by omega)
    have d5 : decide ((c : Int) > 8) = false := decide_eq_false (by omega)
    have d6 : decide (8 < (c : Int)) = false := decide_eq_false (by omega)
    have hn3 : 3 ≤ n := by omega
    have hn16 : n ≤ 16 := by omega
    have hc1 : 1 ≤ c := by omega
    have hc8 : c ≤ 8 := by omega
    have hVi : ∀ i, i < n → 1 ≤ vR Z i ∧ vR Z i ≤ 65536 := fun i hi => by
      have hz : Z[i]? = some (Z[i]'(by rw [hl]; exact hi)) := List.getElem?_eq_getElem _
      have := hZ _ (List.mem_of_getElem? hz)
      unfold vR
      rw [List.getD_eq_getElem?_getD, hz]
      simp only [Option.getD_some]
      omega
    have HL := Lib.hid hl
    have HR := Lib.hid R
    have HZ := Lib.hid hZ
    have HV := Lib.hid hVi
    clear hl R hZ hVi hbad
    go_wp2_with (go_skip)
    refine (lnew_H H).mono ?_
    clear H
    rintro e w1 ⟨p, q, rfl, H⟩
    go_wp2_with (go_skip)
    have H0 : Heap W (LdC p (parN 0) (some q) :: LdM q [] :: l) w1 := H
    clear H
    go_loopw [7] (fun i wr => OpnR W l p q n i wr) (fun i _ => n - (intOf i).toNat)
    case atStart => exact ⟨0, Nat.zero_le _, rfl, H0⟩
    case round =>
      obtain ⟨k, hk, rfl, H⟩ := hrel.out
      clear H0 hrel
      by_cases hlt : k < n
      · have O := open_next (k := k) (by omega)
        have HO := Lib.hid O
        clear O
        go_wp2_with (go_skip)
        refine (lopen2_H (p := p) (q := q) (S := ⟨parN k, []⟩) (k + 1) (by omega) H).mono ?_
        clear H
        rintro e w2 ⟨rfl, H⟩
        rw [HO.out.2] at H
        rw [HO.out.1]
        go_wp2_with (go_skip)
        refine ⟨⟨k + 1, by omega, by go_num, H⟩, ?measure1⟩
        case measure1 => simp [intOf]; omega
      · obtain rfl : n = k := by omega
        have H1 := H
        clear H
        go_wp2_with (go_skip)
        go_loopw [8, 9] (fun m i wr => RingR W l p q n c (vR Z) m i wr) (fun _ i _ => n - (intOf i).toNat)
        case atStart => exact ⟨0, ⟨parN n, []⟩, Nat.zero_le _, rfl, rfl, RgI.start hn16, H1⟩
        case round =>
          obtain ⟨k, S, hk, rfl, rfl, RG, H⟩ := hrel.out
          clear H1 hrel
          by_cases hlt : k < n
          · have hz : Z[k]? = some (Z[k]'(by rw [HL.out]; exact hlt)) := List.getElem?_eq_getElem _
            have hzb := HZ.out _ (List.mem_of_getElem? hz)
            have hvz : vR Z k = Z[k]'(by rw [HL.out]; exact hlt) + 1 := by unfold vR; rw [List.getD_eq_getElem?_getD, hz]; rfl
            generalize Z[k]'(by rw [HL.out]; exact hlt) = z at *
            obtain ⟨eb, eo, rfl, _⟩ := (HR.out _ _ H).lt (by rw [List.length_map, HL.out]; omega)
            have hcz : wr.cell? ⟨eb, eo + k, none⟩ = some (.int .u16 z) := by
              rw [(HR.out _ _ H).get (i := k) (by rw [List.length_map, HL.out]; exact hlt)]
              have := (List.getElem?_eq_some_iff.1 hz).2
              simp [this]
            have ST := RG.step hn3 hn16 HV.out ⟨hc1, hc8⟩ hlt
            obtain ⟨kk, hkk⟩ : ∃ kk, (k + 1) % n = kk := ⟨_, rfl⟩
            have hmod : ((k : Int) + 1) % (n : Int) = (kk : Int) := by rw [← hkk, Int.natCast_emod]; rfl
            have hkn : kk < n := by rw [← hkk]; exact Nat.mod_lt _ (by omega)
            have hnx : nxR n k = kk + 1 := by rw [← nxR_mod hlt, hkk]
            have HLS := Lib.hid (show lsV (vR Z) (k + 1) = min (lsV (vR Z) k) (z + 1) by rw [lsV, hvz])
            rw [hnx, hvz] at ST
            have G1 := RG.good.trust ((kk + 1 : Nat) : Int) ((k + 1 : Nat) : Int) (c : Int) (z + 1)
            have HG := Lib.hid RG.good
            have HG1 := Lib.hid G1
            have HST := Lib.hid ST
            clear hz hvz RG ST G1 hkk hnx
            generalize lsV (vR Z) k = ls at *
            go_wp2_with (first
              | go_skip
              | ((with_reducible show wpList _ _ _ (_ :: _) _ _); (with_reducible apply wpl_loadCell cell_u16r); (· rfl); (· rfl); (· exact hcz); (simp only [Act.put, List.setIfInBounds_toArray, List.set_cons_zero, List.set_cons_succ])))
            refine (ltrust2_H (p := p) (q := q) (S := S) (kk + 1) (k + 1) c (z + 1) (by omega) (by omega) (by omega) HG.out H).mono ?_
            clear H
            rintro e w2 ⟨rfl, H⟩
            rw [HST.out.1]
            go_wp2_with (go_skip)
            refine (lpush2_H (p := p) (q := q) (S := trustS S ((kk + 1 : Nat) : Int) ((k + 1 : Nat) : Int) (c : Int) (z + 1)) (k + 1) (kk + 1) c (z + 1) (by omega) (by omega) (by omega) (by omega) HG1.out H).mono ?_
            clear H
            rintro e w3 ⟨rfl, H⟩
            rw [HST.out.2.1]
            go_wp2_with (go_skip)
            refine ⟨⟨k + 1, _, by omega, by go_num, by rw [HLS.out], HST.out.2.2, H⟩, ?measure2⟩
            case measure2 => simp [intOf]; omega
          · obtain rfl : n = k := by omega
            have G := RG.good
            have HRG := Lib.hid RG
            have HG := Lib.hid G
            clear RG G
            go_wp2_with (go_skip)
            refine (lcopy_H (S := S) (P := S.P) (p := p) (q := q) H List.mem_cons_self (List.mem_cons_of_mem _ List.mem_cons_self)).mono ?_
            clear H
            rintro e w2 ⟨p', q', rfl, H⟩
            go_wp2_with (go_skip)
            refine (net13_H (p := p) (q := q) (S := S) c 1 hc (by omega) HG.out (H.top2 (.there (.there .here)) (.there (.there .here)))).mono ?_
            clear H
            rintro e w3 ⟨g, kk, er, S', rfl, ho, H⟩
            obtain ⟨rfl, rfl, rfl, hG', hlin, hdb, hls1, hls2⟩ := HRG.out.net hn3 hn16 HV.out ⟨hc1, hc8⟩ ho
            have HG' := Lib.hid hG'
            have HLIN := Lib.hid hlin
            have HDB := Lib.hid hdb
            clear ho hG' hlin hdb
            generalize hlse : lsV (vR Z) n = ls at *
            have HLSE := Lib.hid hlse
            have hp0 : 0 ≤ ls * (n : Int) := Int.mul_nonneg (by omega) (by omega)
            have hp1 : ls * (n : Int) ≤ 65536 * 16 := Int.le_trans (Int.mul_le_mul_of_nonneg_right hls2 (by omega)) (by omega)
            obtain ⟨pp, hpp⟩ : ∃ p, ls * (n : Int) = p := ⟨_, rfl⟩
            rw [hpp] at hp0 hp1
            rw [hpp]
            clear hlse
            go_wp2_with (go_skip)
            have H2 := H
            clear H
            go_loopw [17] (fun i wr => RestR W (LdC p S'.P (some q) :: LdM q S'.L :: LdC p' S.P (some q') :: LdM q' S.L :: l) n i wr) (fun i _ => n - (intOf i).toNat)
            case atStart => exact ⟨0, Nat.zero_le _, rfl, H2⟩
            case round =>
              obtain ⟨k, hk, rfl, H⟩ := hrel.out
              clear H2 hrel
              by_cases hlt : k < n
              · have hz : Z[k]? = some (Z[k]'(by rw [HL.out]; exact hlt)) := List.getElem?_eq_getElem _
                have hzb := HZ.out _ (List.mem_of_getElem? hz)
                have hvz : vR Z k = Z[k]'(by rw [HL.out]; exact hlt) + 1 := by unfold vR; rw [List.getD_eq_getElem?_getD, hz]; rfl
                generalize Z[k]'(by rw [HL.out]; exact hlt) = z at *
                obtain ⟨eb, eo, rfl, _⟩ := (HR.out _ _ H).lt (by rw [List.length_map, HL.out]; omega)
                have HX := Lib.hid (show ∀ l' w', Heap W l' w' → w'.cell? ⟨eb, eo + k, none⟩ = some (.int .u16 z) from fun l' w' h => by
                  rw [(HR.out _ _ h).get (i := k) (by rw [List.length_map, HL.out]; exact hlt)]
                  have := (List.getElem?_eq_some_iff.1 hz).2
                  simp [this])
                obtain ⟨kk, hkk⟩ : ∃ kk, (k + 1) % n = kk := ⟨_, rfl⟩
                have hmod : ((k : Int) + 1) % (n : Int) = (kk : Int) := by rw [← hkk, Int.natCast_emod]; rfl
                have hkn : kk < n := by rw [← hkk]; exact Nat.mod_lt _ (by omega)
                have hnx : nxR n k = kk + 1 := by rw [← nxR_mod hlt, hkk]
                have hd := HDB.out k hlt
                rw [hnx, hvz] at hd
                have LL := lline_H (W := W) (l := LdC p S'.P (some q) :: LdM q S'.L :: LdC p' S.P (some q') :: LdM q' S.L :: l) (kk + 1) (k + 1) c (by omega) (by omega) hc HG'.out List.mem_cons_self (List.mem_cons_of_mem _ List.mem_cons_self)
                obtain ⟨x1, x2, x3, x4, hli⟩ := lineC_deb S'.L ((kk + 1 : Nat) : Int) ((k + 1 : Nat) : Int) (c : Int)
                rw [hli, hd] at LL
                have heq : (z + 1 - ls != z + 1 - ls) = false := by simp
                have hw1 : wrap64 (z + 1 - ls) = z + 1 - ls := IntWalk.wrap64_in _ ⟨by omega, by omega⟩
                clear hz hvz hkk hnx hd hli
                generalize isLine S'.L ((kk + 1 : Nat) : Int) ((k + 1 : Nat) : Int) (c : Int) = bb at *
                go_wp2_with (first
                  | go_skip
                  | ((refine (LL _ H).mono ?_); clear H; rintro _ _ ⟨rfl, H⟩)
                  | ((with_reducible show wpList _ _ _ (_ :: _) _ _); (with_reducible apply wpl_allocRH row_line); (· rfl); (· exact H); (clear H; intro pl _ H); (simp only [Act.put, List.setIfInBounds_toArray, List.set_cons_zero, List.set_cons_succ]))
                  | ((with_reducible show wpList _ _ _ (_ :: _) _ _); (with_reducible apply wpl_storeRH row_line); (· rfl); (· rfl); (· rfl); (· with_reducible exact line_cells ..); (· exact H); (· (repeat (first | (with_reducible exact List.mem_cons_self) | with_reducible apply List.mem_cons_of_mem))); (· (simp only [line_sz, Nat.reduceAdd, Nat.reduceLeDiff, Nat.le_refl]; done)); (· with_reducible exact line_splice ..); (· (repeat (first | (with_reducible exact Repl.here) | with_reducible apply Repl.there))); (clear H; intro _ H); (simp only [Act.put, List.setIfInBounds_toArray, List.set_cons_zero, List.set_cons_succ])))
                refine wp_region_H H (by kernel_rfl) (by kernel_rfl) ?_
                repeat (first | go_big_quiet_skip | (first | ((with_reducible apply wpQ_loadCH); (· exact cell_i64); (· rfl); (· rfl); (· (repeat (first | (with_reducible exact List.mem_cons_self) | with_reducible apply List.mem_cons_of_mem))); (· exact line_g4 ..); (simp only [Act.put, List.setIfInBounds_toArray, List.set_cons_zero, List.set_cons_succ])) | ((with_reducible apply wpQ_loadCell); (· exact cell_u16r); (· rfl); (· rfl); (· exact HX.out _); (simp only [Act.put, List.setIfInBounds_toArray, List.set_cons_zero, List.set_cons_succ]))) | go_big_quiet_step (fail))
                refine wpQuiet_nil ?_
                clear H
                intro _ H
                go_wp2_with (go_skip)
                refine ⟨⟨k + 1, by omega, by go_num, H.tail⟩, ?measure3⟩
                case measure3 => simp [intOf]; omega
              · obtain rfl : n = k := by omega
                have SN := sound_A (W := W) (l := LdC p S'.P (some q) :: LdM q S'.L :: LdC p' S.P (some q') :: LdM q' S.L :: l) HG'.out HG.out .here .here (.there (.there .here)) (.there (.there .here)) HLIN.out
                go_wp2_with (first | go_skip | ((with_reducible refine AnsH.call (by assumption) H ?_); clear H; intro _ H) | (refine (LV _ _ H).mono ?_; clear H; rintro _ _ ⟨rfl, H⟩))
                go_ret
                exact ⟨rfl, H.nothing⟩
end
theorem nettingsRing_law (v : Value) (x : Int) (W : World) (o : U16sV W v) (h0 : 0 ≤ x) (h1 : x ≤ 255) :
    Calls Try.prog 10 #[v, .int .u8 x] W fun e w' => e = .returned (.bool true) ∧ Below W.heap.size W w' := by
  obtain ⟨a, n, c, Z, rfl, hZ, hn, hm, hr, hok⟩ := o
  unfold maxLen at hm
  obtain ⟨y, rfl⟩ : ∃ y : Nat, x = y := ⟨x.toNat, by omega⟩
  exact (nettingsRing_H a n c y Z hZ (by omega) (by omega) hok (fun _ w' H => H.rd hr) (Heap.start W)).mono fun e w' ⟨he, hh⟩ => ⟨he, hh.low⟩
end Go.Proofs.Ytgobnamhdkbbeaa

/- NettingsLeast: its walk. (Printed by gen/lawnetleast.py.) -/
namespace Go.Proofs.Ytgobnamhdkbbeaa
open Go.RowKit
set_option linter.unusedSimpArgs false
set_option linter.unusedVariables false
set_option maxRecDepth 100000
theorem AnsH.now13 {W w : World} {l : List Thing} {f : FuncId} {args : Array Value} {v : Value} (_ : Heap W l w) (h : AnsH W l f args v) : AnsH W l f args v := h
structure Mov13 (W : World) (l : List Thing) (n : Nat) (i : Value) (wr : World) : Prop where
  out : ∃ a : Nat, i = .int .u8 (a : Int) ∧ 1 ≤ a ∧ a ≤ n ∧ Heap W l wr
section
variable {W w : World} {l : List Thing}
set_option maxHeartbeats 16000000
theorem nettingsLeast_H (ea : Option Addr) (n ec : Nat) (A : List LAct) (c : Nat) (qt : Int) (hl : A.length = n) (h63 : n ≤ 9223372036854775807) (hA : ∀ x ∈ A, ActOk x) (hc : c ≤ 255) (hq : -9223372036854775808 ≤ qt ∧ qt ≤ 9223372036854775807) (R : ∀ l' w', Heap W l' w' → Rd w' ea (actL A)) (H : Heap W l w) :
    Calls Try.prog 11 #[.slice ea n ec, .agg (ask13 (c : Int) qt)] w fun e w' => e = .returned (.bool true) ∧ Heap W [] w' := by
  have LV := fun l' w' (H : Heap W l' w') => lives13_H H
  go_enter Try.func11, Try.ntmps11
  by_cases h120 : 120 < n
  · have d1 : decide ((n : Int) > 120) = true := decide_eq_true (by omega)
    have d2 : decide (120 < (n : Int)) = true := decide_eq_true (by omega)
    go_wp2_with (first | go_skip | ((with_reducible show wpList _ _ _ (_ :: _) _ _); (with_reducible apply wpl_boxRH); (· rfl); (· rfl); (· exact H); (clear H; intro px _ H); (simp only [Act.put, List.setIfInBounds_toArray, List.set_cons_zero, List.set_cons_succ])) | (refine (LV _ _ H).mono ?_; clear H; rintro _ _ ⟨rfl, H⟩))
    go_ret
    exact ⟨rfl, H.nothing⟩
  · have d1 : decide ((n : Int) > 120) = false := decide_eq_false (by omega)
    have d2 : decide (120 < (n : Int)) = false := decide_eq_false (by omega)
    have hn120 : n ≤ 120 := by omega
    have HR := Lib.hid R
    have HAk := Lib.hid hA
    have HL := Lib.hid hl
    clear R hA hl
    go_wp2_with (first | go_skip | ((with_reducible show wpList _ _ _ (_ :: _) _ _); (with_reducible apply wpl_boxRH); (· rfl); (· rfl); (· exact H); (clear H; intro px _ H); (simp only [Act.put, List.setIfInBounds_toArray, List.set_cons_zero, List.set_cons_succ])))
    refine (made_H ea n ec A HL.out hn120 HAk.out (fun l' w' _ h => HR.out l' w' h) H).mono ?_
    clear H
    rintro e w1 ⟨p, q, rfl, H⟩
    have HG := Lib.hid (madeS_good A)
    generalize madeS A = S at *
    go_wp2_with (go_skip)
    refine (lcopy_H (S := S) (P := S.P) (p := p) (q := q) H List.mem_cons_self (List.mem_cons_of_mem _ List.mem_cons_self)).mono ?_
    clear H
    rintro e w2 ⟨p', q', rfl, H⟩
    go_wp2_with (first | go_skip | ((with_reducible show wpList _ _ _ (_ :: _) _ _); (with_reducible apply wpl_loadCH); (· exact cell_cur); (· rfl); (· rfl); (· exact H); (· (repeat (first | (with_reducible exact List.mem_cons_self) | with_reducible apply List.mem_cons_of_mem))); (· (with_reducible first | exact ask13_g0 .. | exact ask13_g1 ..)); (simp only [Act.put, List.setIfInBounds_toArray, List.set_cons_zero, List.set_cons_succ])))
    refine (debts13_H (p := p) (q := q) (S := S) c hc HG.out (.there (.there .here)) (.there (.there .here)) H).mono ?_
    clear H
    rintro e w3 ⟨vD, rfl, H⟩
    obtain ⟨aD, cD, rfl, _, _⟩ := OwnT.form0 (H.ok _ List.mem_cons_self)
    have hdf := HG.out.dbt_few c
    have hMD := HG.out.dbt c
    have hsb := hMD.sumB
    have htot := HG.out.tot_dbt c
    have HB := Lib.hid hMD.bnd
    have SA := sum8_H (W := W) (l := FlT (.slice aD (dbtS S.L c).length cD) (dbtS S.L c).length (dbtS S.L c) :: LdC p' S.P (some q') :: LdM q' S.L :: LdC p S.P (some q) :: LdM q S.L :: Cel px (ask13 (c : Int) qt) 75 :: l) aD (dbtS S.L c).length cD (dbtS S.L c) rfl (by omega) (fun x hx => ⟨(HB.out x hx).2.2.1, (HB.out x hx).2.2.2⟩) (fun w' h => h.ownRd List.mem_cons_self)
    have TA := ltot_H (W := W) (l := FlT (.slice aD (dbtS S.L c).length cD) (dbtS S.L c).length (dbtS S.L c) :: LdC p' S.P (some q') :: LdM q' S.L :: LdC p S.P (some q) :: LdM q S.L :: Cel px (ask13 (c : Int) qt) 75 :: l) (p := p) (q := q) (S := S) c HG.out (.there (.there (.there .here))) (.there (.there (.there .here)))
    rw [htot] at TA
    have hal : 0 ≤ sumF (dbtS S.L c) ∧ sumF (dbtS S.L c) ≤ 70368744177664 := by omega
    generalize ht0 : sumF (dbtS S.L c) = t0 at *
    have HT0 := Lib.hid ht0
    have HTOT := Lib.hid htot
    have eqt : (t0 != t0) = false := by simp
    clear ht0 htot hMD hsb
    go_wp2_with (first | go_skip | ((with_reducible refine AnsH.call (by assumption) H ?_); clear H; intro _ H) | ((with_reducible show wpList _ _ _ (_ :: _) _ _); (with_reducible apply wpl_loadCH); (· first | exact cell_cur | exact cell_i64); (· rfl); (· rfl); (· exact H); (· (repeat (first | (with_reducible exact List.mem_cons_self) | with_reducible apply List.mem_cons_of_mem))); (· (with_reducible first | exact ask13_g0 .. | exact ask13_g1 ..)); (simp only [Act.put, List.setIfInBounds_toArray, List.set_cons_zero, List.set_cons_succ])))
    clear SA TA
    refine (net13_H (p := p) (q := q) (S := S) c qt hc hq HG.out (H.top2 (.there (.there (.there .here))) (.there (.there (.there .here))))).mono ?_
    clear H
    rintro e w4 ⟨g1, k1, e1, S1, rfl, ho, H⟩
    by_cases he : e1 = 0
    · subst he
      obtain ⟨hfine, hq0, N, NG⟩ := ho.gone HG.out
      have HN := Lib.hid NG
      clear ho NG
      have hlL := leftL_len (dbtS S.L c) N
      have hMD := HG.out.dbt c
      have hI := HN.out.inv
      have hML := (leftL_may hMD hI).bnd
      have hls := (leftL_may hMD hI).sumB
      have hofm := fun y (hy : y ∈ leftL (dbtS S.L c) N) => ofF_was hMD hI hy
      have hsum := HN.out.sum
      have hmany := HN.out.many
      have hG1 := HN.out.good
      have htot1 := hG1.tot_dbt c
      rw [HN.out.dbt] at htot1
      rw [HT0.out] at hsum
      have HML := Lib.hid hML
      have HOFM := Lib.hid hofm
      have HMD := Lib.hid hMD
      have HG1 := Lib.hid hG1
      generalize ht1 : sumF (leftL (dbtS S.L c) N) = t1 at *
      have HT1 := Lib.hid ht1
      have HTOT1 := Lib.hid htot1
      clear hML hofm hMD hI hG1 ht1 htot1
      subst hsum
      go_wp2_with (first | go_skip | ((with_reducible show wpList _ _ _ (_ :: _) _ _); (with_reducible apply wpl_loadCH); (· first | exact cell_cur | exact cell_i64); (· rfl); (· rfl); (· exact H); (· (repeat (first | (with_reducible exact List.mem_cons_self) | with_reducible apply List.mem_cons_of_mem))); (· (with_reducible first | exact ask13_g0 .. | exact ask13_g1 ..)); (simp only [Act.put, List.setIfInBounds_toArray, List.set_cons_zero, List.set_cons_succ])))
      refine (debts13_H (p := p) (q := q) (S := S1) c hc HG1.out .here .here H).mono ?_
      clear H
      rintro e w8 ⟨vQ, rfl, H⟩
      rw [HN.out.dbt] at H
      obtain ⟨aQ, cQ, rfl, _, _⟩ := OwnT.form0 (H.ok _ List.mem_cons_self)
      have A1 := sum8_H (W := W) (l := FlT (.slice aQ (leftL (dbtS S.L c) N).length cQ) (leftL (dbtS S.L c) N).length (leftL (dbtS S.L c) N) :: LdC p S1.P (some q) :: LdM q S1.L :: FlT (.slice aD (dbtS S.L c).length cD) (dbtS S.L c).length (dbtS S.L c) :: LdC p' S.P (some q') :: LdM q' S.L :: Cel px (ask13 (c : Int) qt) 75 :: l) aQ (leftL (dbtS S.L c) N).length cQ (leftL (dbtS S.L c) N) rfl (by omega) (fun x hx => ⟨(HML.out x hx).2.2.1, (HML.out x hx).2.2.2⟩) (fun w' h => h.ownRd List.mem_cons_self)
      have A2 := ltot_H (W := W) (l := FlT (.slice aQ (leftL (dbtS S.L c) N).length cQ) (leftL (dbtS S.L c) N).length (leftL (dbtS S.L c) N) :: LdC p S1.P (some q) :: LdM q S1.L :: FlT (.slice aD (dbtS S.L c).length cD) (dbtS S.L c).length (dbtS S.L c) :: LdC p' S.P (some q') :: LdM q' S.L :: Cel px (ask13 (c : Int) qt) 75 :: l) (p := p') (q := q') (S := S) c HG.out (.there (.there (.there (.there .here)))) (.there (.there (.there (.there .here))))
      have A3 := ltot_H (W := W) (l := FlT (.slice aQ (leftL (dbtS S.L c) N).length cQ) (leftL (dbtS S.L c) N).length (leftL (dbtS S.L c) N) :: LdC p S1.P (some q) :: LdM q S1.L :: FlT (.slice aD (dbtS S.L c).length cD) (dbtS S.L c).length (dbtS S.L c) :: LdC p' S.P (some q') :: LdM q' S.L :: Cel px (ask13 (c : Int) qt) 75 :: l) (p := p) (q := q) (S := S1) c HG1.out (.there .here) (.there .here)
      have A4 := fair8_H (W := W) (l := FlT (.slice aQ (leftL (dbtS S.L c) N).length cQ) (leftL (dbtS S.L c) N).length (leftL (dbtS S.L c) N) :: LdC p S1.P (some q) :: LdM q S1.L :: FlT (.slice aD (dbtS S.L c).length cD) (dbtS S.L c).length (dbtS S.L c) :: LdC p' S.P (some q') :: LdM q' S.L :: Cel px (ask13 (c : Int) qt) 75 :: l) aQ aD (leftL (dbtS S.L c) N).length (dbtS S.L c).length cQ cD (leftL (dbtS S.L c) N) (dbtS S.L c) rfl rfl (by omega) (by omega) (fun y hy => ⟨(HOFM.out y hy).1, (HOFM.out y hy).2.1, (HOFM.out y hy).2.2.1, (HML.out y hy).2.2.2, (HOFM.out y hy).2.2.2⟩) HB.out HN.out.stand (fun l' w' hh h => h.ownRd (hh _ List.mem_cons_self)) (fun l' w' hh h => h.ownRd (hh _ (by (repeat (first | (with_reducible exact List.mem_cons_self) | with_reducible apply List.mem_cons_of_mem)))))
      have A5 := fw8_H (W := W) (l := FlT (.slice aQ (leftL (dbtS S.L c) N).length cQ) (leftL (dbtS S.L c) N).length (leftL (dbtS S.L c) N) :: LdC p S1.P (some q) :: LdM q S1.L :: FlT (.slice aD (dbtS S.L c).length cD) (dbtS S.L c).length (dbtS S.L c) :: LdC p' S.P (some q') :: LdM q' S.L :: Cel px (ask13 (c : Int) qt) 75 :: l) aQ aD (leftL (dbtS S.L c) N).length (dbtS S.L c).length cQ cD (dbtS S.L c) N HMD.out HN.out.inv rfl rfl (by omega) HN.out.pot (fun l' w' hh h => h.ownRd (hh _ List.mem_cons_self)) (fun l' w' hh h => h.ownRd (hh _ (by (repeat (first | (with_reducible exact List.mem_cons_self) | with_reducible apply List.mem_cons_of_mem)))))
      have A6 := sound_A (W := W) (l := FlT (.slice aQ (leftL (dbtS S.L c) N).length cQ) (leftL (dbtS S.L c) N).length (leftL (dbtS S.L c) N) :: LdC p S1.P (some q) :: LdM q S1.L :: FlT (.slice aD (dbtS S.L c).length cD) (dbtS S.L c).length (dbtS S.L c) :: LdC p' S.P (some q') :: LdM q' S.L :: Cel px (ask13 (c : Int) qt) 75 :: l) (p := p) (q := q) (p2 := p') (q2 := q') (S := S1) (S2 := S) HG1.out HG.out (.there .here) (.there .here) (.there (.there (.there (.there .here)))) (.there (.there (.there (.there .here)))) HN.out.lin
      rw [HT1.out] at A1
      rw [HTOT.out] at A2
      rw [HTOT1.out] at A3
      have hw1 : wrap64 (t0 - t1) = t0 - t1 := IntWalk.wrap64_in _ ⟨by omega, by omega⟩
      have m1 : (t0 - t1 != t0 - t1) = false := by simp
      have m2 : decide (k1 < 0) = false := decide_eq_false (by omega)
      have m3 : decide (k1 > t0 - t1) = false := decide_eq_false (by omega)
      have m3' : decide (t0 - t1 < k1) = false := decide_eq_false (by omega)
      go_wp2_with (go_skip)
      refine wp_region_H H (by kernel_rfl) (by kernel_rfl) ?_
      repeat (first | go_big_quiet_skip | ((with_reducible apply wpQ_loadCH); (· exact cell_cur); (· rfl); (· rfl); (· (repeat (first | (with_reducible exact List.mem_cons_self) | with_reducible apply List.mem_cons_of_mem))); (· (with_reducible first | exact ask13_g0 .. | exact ask13_g1 ..)); (simp only [Act.put, List.setIfInBounds_toArray, List.set_cons_zero, List.set_cons_succ])) | go_big_quiet_step ((with_reducible first | exact AnsH.quiet (by assumption) | exact Ans.quietH (by assumption))))
      refine wpQuiet_nil ?_
      clear H
      intro _ H
      clear A1 A2 A3 A4 A5 A6
      go_wp2_with (go_skip)
      have H0 := H
      clear H
      go_loopw [14] (fun i wr => Mov13 W (FlT (.slice aQ (leftL (dbtS S.L c) N).length cQ) (leftL (dbtS S.L c) N).length (leftL (dbtS S.L c) N) :: LdC p S1.P (some q) :: LdM q S1.L :: FlT (.slice aD (dbtS S.L c).length cD) (dbtS S.L c).length (dbtS S.L c) :: LdC p' S.P (some q') :: LdM q' S.L :: Cel px (ask13 (c : Int) qt) 75 :: l) 9 i wr) (fun i _ => 9 - (intOf i).toNat)
      case atStart => exact ⟨1, rfl, by omega, by omega, H0⟩
      case round =>
        obtain ⟨d, rfl, hd1, hd2, H⟩ := hrel.out
        clear H0 hrel
        by_cases hlt9 : d < 9
        · have g1 : decide ((d : Int) ≤ 8) = true := by simp; omega
          go_wp2_with (go_skip)
          have H0 := H
          clear H
          go_loopw [15] (fun i wr => Mov13 W (FlT (.slice aQ (leftL (dbtS S.L c) N).length cQ) (leftL (dbtS S.L c) N).length (leftL (dbtS S.L c) N) :: LdC p S1.P (some q) :: LdM q S1.L :: FlT (.slice aD (dbtS S.L c).length cD) (dbtS S.L c).length (dbtS S.L c) :: LdC p' S.P (some q') :: LdM q' S.L :: Cel px (ask13 (c : Int) qt) 75 :: l) 17 i wr) (fun i _ => 17 - (intOf i).toNat)
          case atStart => exact ⟨1, rfl, by omega, by omega, H0⟩
          case round =>
            obtain ⟨a, rfl, ha1, ha2, H⟩ := hrel.out
            clear H0 hrel
            by_cases hlt2 : a < 17
            · have g2 : decide ((a : Int) ≤ 16) = true := by simp; omega
              have MA := AnsH.now13 H (moved_A (p := p) (q := q) (p2 := p') (q2 := q') (S := S1) (S2 := S) a d 0 HG1.out HG.out (.there .here) (.there .here) (.there (.there (.there (.there .here)))) (.there (.there (.there (.there .here)))) (by omega) (by rw [HN.out.pos]; omega))
              go_wp2_with (first | go_skip | ((with_reducible refine AnsH.call (by assumption) H ?_); clear H; intro _ H))
              refine ⟨⟨a + 1, by go_num, by omega, by omega, H⟩, ?measurea1⟩
              case measurea1 => simp [intOf]; omega
            · obtain rfl : a = 17 := by omega
              have g2 : decide (((17 : Nat) : Int) ≤ 16) = false := by decide
              by_cases hdc : d = c
              · subst hdc
                have b7 : ((d : Int) != (d : Int)) = false := by simp
                go_wp2_with (first | go_skip | ((with_reducible show wpList _ _ _ (_ :: _) _ _); (with_reducible apply wpl_loadCH); (· exact cell_cur); (· rfl); (· rfl); (· exact H); (· (repeat (first | (with_reducible exact List.mem_cons_self) | with_reducible apply List.mem_cons_of_mem))); (· (with_reducible first | exact ask13_g0 .. | exact ask13_g1 ..)); (simp only [Act.put, List.setIfInBounds_toArray, List.set_cons_zero, List.set_cons_succ])))
                refine ⟨⟨d + 1, by go_num, by omega, by omega, H⟩, ?measurea2⟩
                case measurea2 => simp [intOf]; omega
              · have b7 : ((d : Int) != (c : Int)) = true := by simp; omega
                have HO1 := Lib.hid (HN.out.oth d hdc)
                have hfd := HG.out.dbt_few d
                go_wp2_with (first | go_skip | ((with_reducible show wpList _ _ _ (_ :: _) _ _); (with_reducible apply wpl_loadCH); (· exact cell_cur); (· rfl); (· rfl); (· exact H); (· (repeat (first | (with_reducible exact List.mem_cons_self) | with_reducible apply List.mem_cons_of_mem))); (· (with_reducible first | exact ask13_g0 .. | exact ask13_g1 ..)); (simp only [Act.put, List.setIfInBounds_toArray, List.set_cons_zero, List.set_cons_succ])))
                refine (debts13_H (p := p) (q := q) (S := S1) d (by omega) HG1.out (.there .here) (.there .here) H).mono ?_
                clear H
                rintro e w9 ⟨vx, rfl, H⟩
                rw [HO1.out] at H
                obtain ⟨ax, cx, rfl, _, _⟩ := OwnT.form0 (H.ok _ List.mem_cons_self)
                go_wp2_with (go_skip)
                refine (debts13_H (p := p') (q := q') (S := S) d (by omega) HG.out (.there (.there (.there (.there (.there .here))))) (.there (.there (.there (.there (.there .here))))) H).mono ?_
                clear H
                rintro e w10 ⟨vy, rfl, H⟩
                obtain ⟨ay, cy, rfl, _, _⟩ := OwnT.form0 (H.ok _ List.mem_cons_self)
                have SF := sameFlows_P (W := W) (l := FlT (.slice ay (dbtS S.L d).length cy) (dbtS S.L d).length (dbtS S.L d) :: FlT (.slice ax (dbtS S.L d).length cx) (dbtS S.L d).length (dbtS S.L d) :: FlT (.slice aQ (leftL (dbtS S.L c) N).length cQ) (leftL (dbtS S.L c) N).length (leftL (dbtS S.L c) N) :: LdC p S1.P (some q) :: LdM q S1.L :: FlT (.slice aD (dbtS S.L c).length cD) (dbtS S.L c).length (dbtS S.L c) :: LdC p' S.P (some q') :: LdM q' S.L :: Cel px (ask13 (c : Int) qt) 75 :: l) (A := dbtS S.L d) (B := dbtS S.L d) ax ay (dbtS S.L d).length (dbtS S.L d).length cx cy rfl rfl (by omega) (by omega) (fun w' h => h.ownRd (by (repeat (first | (with_reducible exact List.mem_cons_self) | with_reducible apply List.mem_cons_of_mem)))) (fun w' h => h.ownRd (by (repeat (first | (with_reducible exact List.mem_cons_self) | with_reducible apply List.mem_cons_of_mem))))
                rw [decide_eq_true rfl] at SF
                go_wp2_with (first | go_skip | ((with_reducible refine AnsH.call (by assumption) H ?_); clear H; intro _ H))
                refine ⟨⟨d + 1, by go_num, by omega, by omega, H.tail.tail⟩, ?measurea3⟩
                case measurea3 => simp [intOf]; omega
        · obtain rfl : d = 9 := by omega
          have g1 : decide (((9 : Nat) : Int) ≤ 8) = false := by decide
          go_wp2_with (first | go_skip | (refine (LV _ _ H).mono ?_; clear H; rintro _ _ ⟨rfl, H⟩))
          go_ret
          exact ⟨rfl, H.nothing⟩
    · obtain ⟨rfl, rfl, hS, hcase⟩ := ho.fails HG.out he
      have b0 : (e1 != 0) = true := by simpa using he
      subst hS
      clear ho
      go_wp2_with (go_skip)
      refine (llinesN (p := p) (q := q) (S := S1) HG.out .here .here H).mono ?_
      clear H
      rintro e w5 ⟨g2, c2, rfl, _, _, H⟩
      go_wp2_with (go_skip)
      refine (llinesN (p := p') (q := q') (S := S1) HG.out (.there (.there (.there (.there .here)))) (.there (.there (.there (.there .here)))) H).mono ?_
      clear H
      rintro e w6 ⟨g3, c3, rfl, _, _, H⟩
      have hfew := HG.out.few
      have SLN := sameLines_P (W := W) (l := Sl g3 84 5 S1.L.length c3 (linL S1.L) :: Sl g2 84 5 S1.L.length c2 (linL S1.L) :: LdC p S1.P (some q) :: LdM q S1.L :: FlT (.slice aD (dbtS S1.L c).length cD) (dbtS S1.L c).length (dbtS S1.L c) :: LdC p' S1.P (some q') :: LdM q' S1.L :: Cel px (ask13 (c : Int) qt) 75 :: l) (A := S1.L) (B := S1.L) (some ⟨g2, 0, none⟩) (some ⟨g3, 0, none⟩) S1.L.length S1.L.length c2 c3 rfl rfl (by omega) (by omega) (fun w' h => h.slRd (by (repeat (first | (with_reducible exact List.mem_cons_self) | with_reducible apply List.mem_cons_of_mem)))) (fun w' h => h.slRd (by (repeat (first | (with_reducible exact List.mem_cons_self) | with_reducible apply List.mem_cons_of_mem))))
      rw [decide_eq_true rfl] at SLN
      go_wp2_with (go_skip)
      refine (SLN _ H).mono ?_
      clear SLN H
      rintro _ _ ⟨rfl, H⟩
      rcases hcase with ⟨rfl, hno⟩ | ⟨rfl, hfine, hq0, hlt, hmore⟩
      · -- not to be asked
        by_cases f1 : 1 ≤ c
        · have b1 : decide ((c : Int) ≥ 1) = true := decide_eq_true (by omega)
          have b1' : decide (1 ≤ (c : Int)) = true := decide_eq_true (by omega)
          by_cases f2 : c ≤ 8
          · have b2 : decide ((c : Int) ≤ 8) = true := decide_eq_true (by omega)
            have f3 : ¬ 0 ≤ qt := fun h => hno ⟨⟨f1, f2⟩, h⟩
            have b3 : decide (qt ≥ 0) = false := decide_eq_false (by omega)
            have b3' : decide (0 ≤ qt) = false := decide_eq_false (by omega)
            go_wp2_with (first | go_skip | ((with_reducible show wpList _ _ _ (_ :: _) _ _); (with_reducible apply wpl_loadCH); (· first | exact cell_cur | exact cell_i64); (· rfl); (· rfl); (· exact H); (· (repeat (first | (with_reducible exact List.mem_cons_self) | with_reducible apply List.mem_cons_of_mem))); (· (with_reducible first | exact ask13_g0 .. | exact ask13_g1 ..)); (simp only [Act.put, List.setIfInBounds_toArray, List.set_cons_zero, List.set_cons_succ])) | (refine (LV _ _ H).mono ?_; clear H; rintro _ _ ⟨rfl, H⟩))
            go_ret
            exact ⟨rfl, H.nothing⟩
          · have b2 : decide ((c : Int) ≤ 8) = false := decide_eq_false (by omega)
            go_wp2_with (first | go_skip | ((with_reducible show wpList _ _ _ (_ :: _) _ _); (with_reducible apply wpl_loadCH); (· first | exact cell_cur | exact cell_i64); (· rfl); (· rfl); (· exact H); (· (repeat (first | (with_reducible exact List.mem_cons_self) | with_reducible apply List.mem_cons_of_mem))); (· (with_reducible first | exact ask13_g0 .. | exact ask13_g1 ..)); (simp only [Act.put, List.setIfInBounds_toArray, List.set_cons_zero, List.set_cons_succ])) | (refine (LV _ _ H).mono ?_; clear H; rintro _ _ ⟨rfl, H⟩))
            go_ret
            exact ⟨rfl, H.nothing⟩
        · have b1 : decide ((c : Int) ≥ 1) = false := decide_eq_false (by omega)
          have b1' : decide (1 ≤ (c : Int)) = false := decide_eq_false (by omega)
          go_wp2_with (first | go_skip | ((with_reducible show wpList _ _ _ (_ :: _) _ _); (with_reducible apply wpl_loadCH); (· first | exact cell_cur | exact cell_i64); (· rfl); (· rfl); (· exact H); (· (repeat (first | (with_reducible exact List.mem_cons_self) | with_reducible apply List.mem_cons_of_mem))); (· (with_reducible first | exact ask13_g0 .. | exact ask13_g1 ..)); (simp only [Act.put, List.setIfInBounds_toArray, List.set_cons_zero, List.set_cons_succ])) | (refine (LV _ _ H).mono ?_; clear H; rintro _ _ ⟨rfl, H⟩))
          go_ret
          exact ⟨rfl, H.nothing⟩
      · have b1 : decide ((c : Int) ≥ 1) = true := decide_eq_true (by omega)
        have b1' : decide (1 ≤ (c : Int)) = true := decide_eq_true (by omega)
        have b2 : decide ((c : Int) ≤ 8) = true := decide_eq_true (by omega)
        have b3 : decide (qt ≥ 0) = true := decide_eq_true (by omega)
        have b3' : decide (0 ≤ qt) = true := decide_eq_true (by omega)
        rw [HT0.out] at hlt hmore
        have b4 : decide (qt ≥ t0) = false := decide_eq_false (by omega)
        have b4' : decide (t0 ≤ qt) = false := decide_eq_false (by omega)
        have HMR := Lib.hid hmore
        clear hmore
        go_wp2_with (first | go_skip | ((with_reducible show wpList _ _ _ (_ :: _) _ _); (with_reducible apply wpl_loadCH); (· first | exact cell_cur | exact cell_i64); (· rfl); (· rfl); (· exact H); (· (repeat (first | (with_reducible exact List.mem_cons_self) | with_reducible apply List.mem_cons_of_mem))); (· (with_reducible first | exact ask13_g0 .. | exact ask13_g1 ..)); (simp only [Act.put, List.setIfInBounds_toArray, List.set_cons_zero, List.set_cons_succ])))
        refine (net13_H (p := p) (q := q) (S := S1) c t0 hc (by omega) HG.out (H.top2 (.there (.there .here)) (.there (.there .here)))).mono ?_
        clear H
        rintro e w7 ⟨g4, k4, e4, S2, rfl, ho, H⟩
        obtain ⟨rfl, hk⟩ := HMR.out _ _ _ _ ho
        obtain ⟨_, _, N, NG⟩ := ho.gone HG.out
        have HN := Lib.hid NG
        have b5 : decide (k4 ≤ qt) = false := decide_eq_false (by omega)
        clear ho NG
        go_wp2_with (first | go_skip | ((with_reducible show wpList _ _ _ (_ :: _) _ _); (with_reducible apply wpl_loadCH); (· first | exact cell_cur | exact cell_i64); (· rfl); (· rfl); (· exact H); (· (repeat (first | (with_reducible exact List.mem_cons_self) | with_reducible apply List.mem_cons_of_mem))); (· (with_reducible first | exact ask13_g0 .. | exact ask13_g1 ..)); (simp only [Act.put, List.setIfInBounds_toArray, List.set_cons_zero, List.set_cons_succ])))
        replace H := (H.drop (.there (.there .here))).drop (.there (.there .here))
        have hlL := leftL_len (dbtS S1.L c) N
        have hMD := HG.out.dbt c
        have hI := HN.out.inv
        have hML := (leftL_may hMD hI).bnd
        have hls := (leftL_may hMD hI).sumB
        have hofm := fun y (hy : y ∈ leftL (dbtS S1.L c) N) => ofF_was hMD hI hy
        have hsum := HN.out.sum
        have hmany := HN.out.many
        have hG1 := HN.out.good
        have htot1 := hG1.tot_dbt c
        rw [HN.out.dbt] at htot1
        rw [HT0.out] at hsum
        have HML := Lib.hid hML
        have HOFM := Lib.hid hofm
        have HMD := Lib.hid hMD
        have HG1 := Lib.hid hG1
        generalize ht1 : sumF (leftL (dbtS S1.L c) N) = t1 at *
        have HT1 := Lib.hid ht1
        have HTOT1 := Lib.hid htot1
        clear hML hofm hMD hI hG1 ht1 htot1
        subst hsum
        go_wp2_with (first | go_skip | ((with_reducible show wpList _ _ _ (_ :: _) _ _); (with_reducible apply wpl_loadCH); (· first | exact cell_cur | exact cell_i64); (· rfl); (· rfl); (· exact H); (· (repeat (first | (with_reducible exact List.mem_cons_self) | with_reducible apply List.mem_cons_of_mem))); (· (with_reducible first | exact ask13_g0 .. | exact ask13_g1 ..)); (simp only [Act.put, List.setIfInBounds_toArray, List.set_cons_zero, List.set_cons_succ])))
        refine (debts13_H (p := p) (q := q) (S := S2) c hc HG1.out .here .here H).mono ?_
        clear H
        rintro e w8 ⟨vQ, rfl, H⟩
        rw [HN.out.dbt] at H
        obtain ⟨aQ, cQ, rfl, _, _⟩ := OwnT.form0 (H.ok _ List.mem_cons_self)
        have A1 := sum8_H (W := W) (l := FlT (.slice aQ (leftL (dbtS S1.L c) N).length cQ) (leftL (dbtS S1.L c) N).length (leftL (dbtS S1.L c) N) :: LdC p S2.P (some q) :: LdM q S2.L :: FlT (.slice aD (dbtS S1.L c).length cD) (dbtS S1.L c).length (dbtS S1.L c) :: LdC p' S1.P (some q') :: LdM q' S1.L :: Cel px (ask13 (c : Int) qt) 75 :: l) aQ (leftL (dbtS S1.L c) N).length cQ (leftL (dbtS S1.L c) N) rfl (by omega) (fun x hx => ⟨(HML.out x hx).2.2.1, (HML.out x hx).2.2.2⟩) (fun w' h => h.ownRd List.mem_cons_self)
        have A2 := ltot_H (W := W) (l := FlT (.slice aQ (leftL (dbtS S1.L c) N).length cQ) (leftL (dbtS S1.L c) N).length (leftL (dbtS S1.L c) N) :: LdC p S2.P (some q) :: LdM q S2.L :: FlT (.slice aD (dbtS S1.L c).length cD) (dbtS S1.L c).length (dbtS S1.L c) :: LdC p' S1.P (some q') :: LdM q' S1.L :: Cel px (ask13 (c : Int) qt) 75 :: l) (p := p') (q := q') (S := S1) c HG.out (.there (.there (.there (.there .here)))) (.there (.there (.there (.there .here))))
        have A3 := ltot_H (W := W) (l := FlT (.slice aQ (leftL (dbtS S1.L c) N).length cQ) (leftL (dbtS S1.L c) N).length (leftL (dbtS S1.L c) N) :: LdC p S2.P (some q) :: LdM q S2.L :: FlT (.slice aD (dbtS S1.L c).length cD) (dbtS S1.L c).length (dbtS S1.L c) :: LdC p' S1.P (some q') :: LdM q' S1.L :: Cel px (ask13 (c : Int) qt) 75 :: l) (p := p) (q := q) (S := S2) c HG1.out (.there .here) (.there .here)
        have A4 := fair8_H (W := W) (l := FlT (.slice aQ (leftL (dbtS S1.L c) N).length cQ) (leftL (dbtS S1.L c) N).length (leftL (dbtS S1.L c) N) :: LdC p S2.P (some q) :: LdM q S2.L :: FlT (.slice aD (dbtS S1.L c).length cD) (dbtS S1.L c).length (dbtS S1.L c) :: LdC p' S1.P (some q') :: LdM q' S1.L :: Cel px (ask13 (c : Int) qt) 75 :: l) aQ aD (leftL (dbtS S1.L c) N).length (dbtS S1.L c).length cQ cD (leftL (dbtS S1.L c) N) (dbtS S1.L c) rfl rfl (by omega) (by omega) (fun y hy => ⟨(HOFM.out y hy).1, (HOFM.out y hy).2.1, (HOFM.out y hy).2.2.1, (HML.out y hy).2.2.2, (HOFM.out y hy).2.2.2⟩) HB.out HN.out.stand (fun l' w' hh h => h.ownRd (hh _ List.mem_cons_self)) (fun l' w' hh h => h.ownRd (hh _ (by (repeat (first | (with_reducible exact List.mem_cons_self) | with_reducible apply List.mem_cons_of_mem)))))
        have A5 := fw8_H (W := W) (l := FlT (.slice aQ (leftL (dbtS S1.L c) N).length cQ) (leftL (dbtS S1.L c) N).length (leftL (dbtS S1.L c) N) :: LdC p S2.P (some q) :: LdM q S2.L :: FlT (.slice aD (dbtS S1.L c).length cD) (dbtS S1.L c).length (dbtS S1.L c) :: LdC p' S1.P (some q') :: LdM q' S1.L :: Cel px (ask13 (c : Int) qt) 75 :: l) aQ aD (leftL (dbtS S1.L c) N).length (dbtS S1.L c).length cQ cD (dbtS S1.L c) N HMD.out HN.out.inv rfl rfl (by omega) HN.out.pot (fun l' w' hh h => h.ownRd (hh _ List.mem_cons_self)) (fun l' w' hh h => h.ownRd (hh _ (by (repeat (first | (with_reducible exact List.mem_cons_self) | with_reducible apply List.mem_cons_of_mem)))))
        have A6 := sound_A (W := W) (l := FlT (.slice aQ (leftL (dbtS S1.L c) N).length cQ) (leftL (dbtS S1.L c) N).length (leftL (dbtS S1.L c) N) :: LdC p S2.P (some q) :: LdM q S2.L :: FlT (.slice aD (dbtS S1.L c).length cD) (dbtS S1.L c).length (dbtS S1.L c) :: LdC p' S1.P (some q') :: LdM q' S1.L :: Cel px (ask13 (c : Int) qt) 75 :: l) (p := p) (q := q) (p2 := p') (q2 := q') (S := S2) (S2 := S1) HG1.out HG.out (.there .here) (.there .here) (.there (.there (.there (.there .here)))) (.there (.there (.there (.there .here)))) HN.out.lin
        rw [HT1.out] at A1
        rw [HTOT.out] at A2
        rw [HTOT1.out] at A3
        have hw1 : wrap64 (t0 - t1) = t0 - t1 := IntWalk.wrap64_in _ ⟨by omega, by omega⟩
        have m1 : (t0 - t1 != t0 - t1) = false := by simp
        have m2 : decide (k4 < 0) = false := decide_eq_false (by omega)
        have m3 : decide (k4 > t0 - t1) = false := decide_eq_false (by omega)
        have m3' : decide (t0 - t1 < k4) = false := decide_eq_false (by omega)
        go_wp2_with (go_skip)
        refine wp_region_H H (by kernel_rfl) (by kernel_rfl) ?_
        repeat (first | go_big_quiet_skip | ((with_reducible apply wpQ_loadCH); (· exact cell_cur); (· rfl); (· rfl); (· (repeat (first | (with_reducible exact List.mem_cons_self) | with_reducible apply List.mem_cons_of_mem))); (· (with_reducible first | exact ask13_g0 .. | exact ask13_g1 ..)); (simp only [Act.put, List.setIfInBounds_toArray, List.set_cons_zero, List.set_cons_succ])) | go_big_quiet_step ((with_reducible first | exact AnsH.quiet (by assumption) | exact Ans.quietH (by assumption))))
        refine wpQuiet_nil ?_
        clear H
        intro _ H
        clear A1 A2 A3 A4 A5 A6
        go_wp2_with (go_skip)
        have H0 := H
        clear H
        go_loopw [14] (fun i wr => Mov13 W (FlT (.slice aQ (leftL (dbtS S1.L c) N).length cQ) (leftL (dbtS S1.L c) N).length (leftL (dbtS S1.L c) N) :: LdC p S2.P (some q) :: LdM q S2.L :: FlT (.slice aD (dbtS S1.L c).length cD) (dbtS S1.L c).length (dbtS S1.L c) :: LdC p' S1.P (some q') :: LdM q' S1.L :: Cel px (ask13 (c : Int) qt) 75 :: l) 9 i wr) (fun i _ => 9 - (intOf i).toNat)
        case atStart => exact ⟨1, rfl, by omega, by omega, H0⟩
        case round =>
          obtain ⟨d, rfl, hd1, hd2, H⟩ := hrel.out
          clear H0 hrel
          by_cases hlt9 : d < 9
          · have g1 : decide ((d : Int) ≤ 8) = true := by simp; omega
            go_wp2_with (go_skip)
            have H0 := H
            clear H
            go_loopw [15] (fun i wr => Mov13 W (FlT (.slice aQ (leftL (dbtS S1.L c) N).length cQ) (leftL (dbtS S1.L c) N).length (leftL (dbtS S1.L c) N) :: LdC p S2.P (some q) :: LdM q S2.L :: FlT (.slice aD (dbtS S1.L c).length cD) (dbtS S1.L c).length (dbtS S1.L c) :: LdC p' S1.P (some q') :: LdM q' S1.L :: Cel px (ask13 (c : Int) qt) 75 :: l) 17 i wr) (fun i _ => 17 - (intOf i).toNat)
            case atStart => exact ⟨1, rfl, by omega, by omega, H0⟩
            case round =>
              obtain ⟨a, rfl, ha1, ha2, H⟩ := hrel.out
              clear H0 hrel
              by_cases hlt2 : a < 17
              · have g2 : decide ((a : Int) ≤ 16) = true := by simp; omega
                have MA := AnsH.now13 H (moved_A (p := p) (q := q) (p2 := p') (q2 := q') (S := S2) (S2 := S1) a d 0 HG1.out HG.out (.there .here) (.there .here) (.there (.there (.there (.there .here)))) (.there (.there (.there (.there .here)))) (by omega) (by rw [HN.out.pos]; omega))
                go_wp2_with (first | go_skip | ((with_reducible refine AnsH.call (by assumption) H ?_); clear H; intro _ H))
                refine ⟨⟨a + 1, by go_num, by omega, by omega, H⟩, ?measureb1⟩
                case measureb1 => simp [intOf]; omega
              · obtain rfl : a = 17 := by omega
                have g2 : decide (((17 : Nat) : Int) ≤ 16) = false := by decide
                by_cases hdc : d = c
                · subst hdc
                  have b7 : ((d : Int) != (d : Int)) = false := by simp
                  go_wp2_with (first | go_skip | ((with_reducible show wpList _ _ _ (_ :: _) _ _); (with_reducible apply wpl_loadCH); (· exact cell_cur); (· rfl); (· rfl); (· exact H); (· (repeat (first | (with_reducible exact List.mem_cons_self) | with_reducible apply List.mem_cons_of_mem))); (· (with_reducible first | exact ask13_g0 .. | exact ask13_g1 ..)); (simp only [Act.put, List.setIfInBounds_toArray, List.set_cons_zero, List.set_cons_succ])))
                  refine ⟨⟨d + 1, by go_num, by omega, by omega, H⟩, ?measureb2⟩
                  case measureb2 => simp [intOf]; omega
                · have b7 : ((d : Int) != (c : Int)) = true := by simp; omega
                  have HO1 := Lib.hid (HN.out.oth d hdc)
                  have hfd := HG.out.dbt_few d
                  go_wp2_with (first | go_skip | ((with_reducible show wpList _ _ _ (_ :: _) _ _); (with_reducible apply wpl_loadCH); (· exact cell_cur); (· rfl); (· rfl); (· exact H); (· (repeat (first | (with_reducible exact List.mem_cons_self) | with_reducible apply List.mem_cons_of_mem))); (· (with_reducible first | exact ask13_g0 .. | exact ask13_g1 ..)); (simp only [Act.put, List.setIfInBounds_toArray, List.set_cons_zero, List.set_cons_succ])))
                  refine (debts13_H (p := p) (q := q) (S := S2) d (by omega) HG1.out (.there .here) (.there .here) H).mono ?_
                  clear H
                  rintro e w9 ⟨vx, rfl, H⟩
                  rw [HO1.out] at H
                  obtain ⟨ax, cx, rfl, _, _⟩ := OwnT.form0 (H.ok _ List.mem_cons_self)
                  go_wp2_with (go_skip)
                  refine (debts13_H (p := p') (q := q') (S := S1) d (by omega) HG.out (.there (.there (.there (.there (.there .here))))) (.there (.there (.there (.there (.there .here))))) H).mono ?_
                  clear H
                  rintro e w10 ⟨vy, rfl, H⟩
                  obtain ⟨ay, cy, rfl, _, _⟩ := OwnT.form0 (H.ok _ List.mem_cons_self)
                  have SF := sameFlows_P (W := W) (l := FlT (.slice ay (dbtS S1.L d).length cy) (dbtS S1.L d).length (dbtS S1.L d) :: FlT (.slice ax (dbtS S1.L d).length cx) (dbtS S1.L d).length (dbtS S1.L d) :: FlT (.slice aQ (leftL (dbtS S1.L c) N).length cQ) (leftL (dbtS S1.L c) N).length (leftL (dbtS S1.L c) N) :: LdC p S2.P (some q) :: LdM q S2.L :: FlT (.slice aD (dbtS S1.L c).length cD) (dbtS S1.L c).length (dbtS S1.L c) :: LdC p' S1.P (some q') :: LdM q' S1.L :: Cel px (ask13 (c : Int) qt) 75 :: l) (A := dbtS S1.L d) (B := dbtS S1.L d) ax ay (dbtS S1.L d).length (dbtS S1.L d).length cx cy rfl rfl (by omega) (by omega) (fun w' h => h.ownRd (by (repeat (first | (with_reducible exact List.mem_cons_self) | with_reducible apply List.mem_cons_of_mem)))) (fun w' h => h.ownRd (by (repeat (first | (with_reducible exact List.mem_cons_self) | with_reducible apply List.mem_cons_of_mem))))
                  rw [decide_eq_true rfl] at SF
                  go_wp2_with (first | go_skip | ((with_reducible refine AnsH.call (by assumption) H ?_); clear H; intro _ H))
                  refine ⟨⟨d + 1, by go_num, by omega, by omega, H.tail.tail⟩, ?measureb3⟩
                  case measureb3 => simp [intOf]; omega
          · obtain rfl : d = 9 := by omega
            have g1 : decide (((9 : Nat) : Int) ≤ 8) = false := by decide
            go_wp2_with (first | go_skip | (refine (LV _ _ H).mono ?_; clear H; rintro _ _ ⟨rfl, H⟩))
            go_ret
            exact ⟨rfl, H.nothing⟩
end
theorem nettingsLeast_law (v1 v2 : Value) (W : World) (o1 : ActsV W v1) (o2 : AskNArg W v2) :
    Calls Try.prog 11 #[v1, v2] W fun e w' => e = .returned (.bool true) ∧ Below W.heap.size W w' := by
  obtain ⟨ea, n, ec, A, rfl, o⟩ := o1
  obtain ⟨⟨c, qt⟩, rfl, q1, q2⟩ := o2
  exact (nettingsLeast_H ea n ec A c qt o.len (by have h1 := o.cap; have h2 := o.max; unfold maxLen at h2; omega) o.ok q1 q2 (fun _ w' H => H.rd o.rd) (Heap.start W)).mono fun e w' ⟨he, hh⟩ => ⟨he, hh.low⟩
end Go.Proofs.Ytgobnamhdkbbeaa

/- ledgers.Ledger: of no ledger, and of one that no call made. -/
namespace Go.Proofs.Ytgobnamhdkbbeaa
open Go.RowKit
set_option linter.unusedSimpArgs false
set_option linter.unusedVariables false
/-- There is no ledger there, whatever else lies there. -/
def VoidL (W : World) (l : List Thing) (v : Value) : Prop := ∀ l', (∀ t ∈ l, t ∈ l') → AnsH W l' 55 #[v] (.bool false)
theorem VoidL.now {W : World} {l : List Thing} {v : Value} (h : VoidL W l v) : AnsH W l 55 #[v] (.bool false) := h l fun _ h => h
theorem VoidL.nil (W : World) (l : List Thing) : VoidL W l (.pointer none) := fun _ _ => lthere_nil.toH
theorem VoidL.zero {W : World} {l : List Thing} {p : Nat} {P : List Int} (h : LdC p P none ∈ l) : VoidL W l (.pointer (some ⟨p, 0, none⟩)) := fun _ hl => lthere_H (m := none) (hl _ h)
section
variable {w W : World} {l : List Thing} {v : Value}
set_option maxRecDepth 100000
set_option maxHeartbeats 1000000
theorem lopen_V (a : Nat) (hT : VoidL W l v) : AnsH W l 41 #[v, .int .u8 (a : Int)] (.int .i64 2) := by
  intro w H
  have hT0 := hT.now
  go_enter Try.func41, Try.ntmps41
  go_wp2_with (first | go_skip | ((with_reducible refine AnsH.call (by assumption) H ?_); clear H; intro _ H))
  go_ret
  exact ⟨rfl, H⟩
theorem ltrust_V (f t c : Nat) (n : Int) (hT : VoidL W l v) : AnsH W l 42 #[v, .int .u8 (f : Int), .int .u8 (t : Int), .int .u8 (c : Int), .int .i64 n] (.int .i64 2) := by
  intro w H
  have hT0 := hT.now
  go_enter Try.func42, Try.ntmps42
  go_wp2_with (first | go_skip | ((with_reducible show wpList _ _ _ (_ :: _) _ _); (with_reducible apply wpl_allocRH row_ends); (· rfl); (· exact H); (clear H; intro pe _ H); (simp only [Act.put, List.setIfInBounds_toArray, List.set_cons_zero, List.set_cons_succ])) | ((with_reducible show wpList _ _ _ (_ :: _) _ _); (with_reducible apply wpl_storeRH row_ends); (· rfl); (· rfl); (· rfl); (· with_reducible exact ends_cells ..); (· exact H); (· (repeat (first | (with_reducible exact List.mem_cons_self) | with_reducible apply List.mem_cons_of_mem))); (· (simp only [ends_sz, Nat.reduceAdd, Nat.reduceLeDiff, Nat.le_refl]; done)); (· with_reducible exact ends_splice ..); (· (repeat (first | (with_reducible exact Repl.here) | with_reducible apply Repl.there))); (clear H; intro _ H); (simp only [Act.put, List.setIfInBounds_toArray, List.set_cons_zero, List.set_cons_succ])))
  refine (hT (Cel pe (ends (f : Int) (t : Int) (c : Int)) 105 :: l) (fun t ht => List.mem_cons_of_mem _ ht) _ H).mono ?_
  clear H
  rintro _ w1 ⟨rfl, H⟩
  go_wp2_with (go_skip)
  go_ret
  exact ⟨rfl, H.tail⟩
theorem lpush_V (f t c : Nat) (n : Int) (hT : VoidL W l v) : AnsH W l 18 #[v, .int .u8 (f : Int), .int .u8 (t : Int), .int .u8 (c : Int), .int .i64 n] (.int .i64 2) := by
  intro w H
  have hT0 := hT.now
  go_enter Try.func18, Try.ntmps18
  go_wp2_with (first | go_skip | ((with_reducible refine AnsH.call (by assumption) H ?_); clear H; intro _ H))
  go_ret
  exact ⟨rfl, H⟩
theorem lhas_V (a : Nat) (hT : VoidL W l v) : AnsH W l 33 #[v, .int .u8 (a : Int)] (.bool false) := by
  intro w H
  have hT0 := hT.now
  go_enter Try.func33, Try.ntmps33
  go_wp2_with (first | go_skip | ((with_reducible refine AnsH.call (by assumption) H ?_); clear H; intro _ H))
  go_ret
  exact ⟨rfl, H⟩
theorem lroom_V (f t c : Nat) (hT : VoidL W l v) : AnsH W l 16 #[v, .int .u8 (f : Int), .int .u8 (t : Int), .int .u8 (c : Int)] (.int .i64 0) := by
  intro w H
  have hT0 := hT.now
  go_enter Try.func16, Try.ntmps16
  go_wp2_with (first | go_skip | ((with_reducible refine AnsH.call (by assumption) H ?_); clear H; intro _ H))
  go_ret
  exact ⟨rfl, H⟩
theorem lparties_V  (hT : VoidL W l v) : AnsH W l 52 #[v] (.slice none 0 0) := by
  intro w H
  have hT0 := hT.now
  go_enter Try.func52, Try.ntmps52
  go_wp2_with (first | go_skip | ((with_reducible refine AnsH.call (by assumption) H ?_); clear H; intro _ H))
  go_ret
  exact ⟨rfl, H⟩
theorem llines_V  (hT : VoidL W l v) : AnsH W l 32 #[v] (.slice none 0 0) := by
  intro w H
  have hT0 := hT.now
  go_enter Try.func32, Try.ntmps32
  go_wp2_with (first | go_skip | ((with_reducible refine AnsH.call (by assumption) H ?_); clear H; intro _ H))
  go_ret
  exact ⟨rfl, H⟩
theorem lcopy_V  (hT : VoidL W l v) : AnsH W l 30 #[v] (.pointer none) := by
  intro w H
  have hT0 := hT.now
  go_enter Try.func30, Try.ntmps30
  go_wp2_with (first | go_skip | ((with_reducible refine AnsH.call (by assumption) H ?_); clear H; intro _ H))
  go_ret
  exact ⟨rfl, H⟩
theorem lline_V (f t c : Nat) (hT : VoidL W l v) : AnsH W l 43 #[v, .int .u8 (f : Int), .int .u8 (t : Int), .int .u8 (c : Int)] (.tuple #[.agg (line 0 0 0 0 0), .bool false]) := by
  intro w H
  have hT0 := hT.now
  go_enter Try.func43, Try.ntmps43
  go_wp2_with (first | go_skip | ((with_reducible show wpList _ _ _ (_ :: _) _ _); (with_reducible apply wpl_allocRH row_line); (· rfl); (· exact H); (clear H; intro pe _ H); (simp only [Act.put, List.setIfInBounds_toArray, List.set_cons_zero, List.set_cons_succ])))
  refine (hT (Cel pe (line 0 0 0 0 0) 84 :: l) (fun t ht => List.mem_cons_of_mem _ ht) _ H).mono ?_
  clear H
  rintro _ w1 ⟨rfl, H⟩
  go_wp2_with (first | go_skip | ((with_reducible show wpList _ _ _ (_ :: _) _ _); (with_reducible apply wpl_storeRH row_line); (· rfl); (· rfl); (· rfl); (· with_reducible exact line_cells ..); (· exact H); (· (repeat (first | (with_reducible exact List.mem_cons_self) | with_reducible apply List.mem_cons_of_mem))); (· (simp only [line_sz, Nat.reduceAdd, Nat.reduceLeDiff, Nat.le_refl]; done)); (· with_reducible exact line_splice ..); (· (repeat (first | (with_reducible exact Repl.here) | with_reducible apply Repl.there))); (clear H; intro _ H); (simp only [Act.put, List.setIfInBounds_toArray, List.set_cons_zero, List.set_cons_succ])))
  exact ret_row2H row_line rfl rfl rfl H (by (repeat (first | (with_reducible exact List.mem_cons_self) | with_reducible apply List.mem_cons_of_mem))) rfl rfl ⟨rfl, H.tail⟩
theorem lforg_V (f t c : Nat) (n : Int) (hT : VoidL W l v) : AnsH W l 51 #[v, .int .u8 (f : Int), .int .u8 (t : Int), .int .u8 (c : Int), .int .i64 n] (.int .i64 2) := by
  intro w H
  have hT0 := hT.now
  have hL := lline_V f t c hT
  go_enter Try.func51, Try.ntmps51
  go_wp2_with (first | go_skip | ((with_reducible refine AnsH.call (by assumption) H ?_); clear H; intro _ H) | ((with_reducible show wpList _ _ _ (_ :: _) _ _); (with_reducible apply wpl_allocRH row_line); (· rfl); (· exact H); (clear H; intro pe _ H); (simp only [Act.put, List.setIfInBounds_toArray, List.set_cons_zero, List.set_cons_succ])) | ((with_reducible show wpList _ _ _ (_ :: _) _ _); (with_reducible apply wpl_storeRH row_line); (· rfl); (· rfl); (· rfl); (· with_reducible exact line_cells ..); (· exact H); (· (repeat (first | (with_reducible exact List.mem_cons_self) | with_reducible apply List.mem_cons_of_mem))); (· (simp only [line_sz, Nat.reduceAdd, Nat.reduceLeDiff, Nat.le_refl]; done)); (· with_reducible exact line_splice ..); (· (repeat (first | (with_reducible exact Repl.here) | with_reducible apply Repl.there))); (clear H; intro _ H); (simp only [Act.put, List.setIfInBounds_toArray, List.set_cons_zero, List.set_cons_succ])))
  refine (hT (Cel pe (line 0 0 0 0 0) 84 :: l) (fun t ht => List.mem_cons_of_mem _ ht) _ H).mono ?_
  clear H
  rintro _ w1 ⟨rfl, H⟩
  go_wp2_with (go_skip)
  go_ret
  exact ⟨rfl, H.tail⟩
theorem lpos_V (a c : Nat) (hT : VoidL W l v) : AnsH W l 76 #[v, .int .u8 (a : Int), .int .u8 (c : Int)] (.int .i64 0) := by
  intro w H
  have hT0 := hT.now
  have hL := llines_V hT
  go_enter Try.func76, Try.ntmps76
  go_wp2_with (first | go_skip | ((with_reducible refine AnsH.call (by assumption) H ?_); clear H; intro _ H))
  refine wp_loop_once ?_
  go_wp2_with (go_skip)
  go_ret
  exact ⟨rfl, H⟩
theorem ltot_V (c : Nat) (hT : VoidL W l v) : AnsH W l 45 #[v, .int .u8 (c : Int)] (.int .i64 0) := by
  intro w H
  have hT0 := hT.now
  have hL := llines_V hT
  go_enter Try.func45, Try.ntmps45
  go_wp2_with (first | go_skip | ((with_reducible refine AnsH.call (by assumption) H ?_); clear H; intro _ H))
  refine wp_loop_once ?_
  go_wp2_with (go_skip)
  go_ret
  exact ⟨rfl, H⟩
end
end Go.Proofs.Ytgobnamhdkbbeaa
