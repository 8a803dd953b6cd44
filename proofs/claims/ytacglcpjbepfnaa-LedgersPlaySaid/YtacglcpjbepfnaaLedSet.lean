/- Ledgers as lists: the document's ways to make them (a line set in its place; a party put among others). -/
import Derived.Test.YtacglcpjbepfnaaLedger
namespace Go.Proofs.Ytacglcpjbepfnaa
/-- A line set in its place, going through the lines (put: it is put already, or is none). -/
def setR (x : Lin) : List Lin → Bool → List Lin
  | [], put => if put then [] else [x]
  | y :: ys, put => if y.rank = x.rank then setR x ys put else if put = false ∧ x.rank < y.rank then x :: y :: setR x ys true else y :: setR x ys put
theorem setR_true (x : Lin) : ∀ L : List Lin, setR x L true = L.filter fun y => decide (y.rank ≠ x.rank)
  | [] => rfl
  | y :: ys => by
    unfold setR
    by_cases h : y.rank = x.rank
    · rw [if_pos h, setR_true x ys, List.filter_cons_of_neg (by simp [h])]
    · rw [if_neg h, if_neg (by simp), setR_true x ys, List.filter_cons_of_pos (by simp [h])]
theorem setR_gt (x : Lin) : ∀ L : List Lin, (∀ y ∈ L, x.rank < y.rank) → setR x L false = x :: L
  | [], _ => rfl
  | y :: ys, h => by
    have h1 := h y (List.mem_cons_self ..)
    unfold setR
    rw [if_neg (by omega), if_pos ⟨rfl, h1⟩, setR_true, List.filter_eq_self.2]
    intro z hz
    have := h z (List.mem_cons_of_mem _ hz)
    simp; omega
theorem filter_none {α : Type} {p : α → Bool} {l : List α} (h : ∀ y ∈ l, p y = false) : l.filter p = [] := by
  rw [List.filter_eq_nil_iff]
  intro y hy
  rw [h y hy]
  exact Bool.false_ne_true
theorem setR_false (x : Lin) : ∀ L : List Lin, L.Pairwise (fun x y => x.rank < y.rank) → setR x L false = L.filter (fun y => decide (y.rank < x.rank)) ++ x :: L.filter (fun y => decide (x.rank < y.rank))
  | [], _ => rfl
  | y :: ys, h => by
    have h1 := List.pairwise_cons.1 h
    rcases Int.lt_trichotomy y.rank x.rank with h' | h' | h'
    · unfold setR
      rw [if_neg (by omega), if_neg (by omega), setR_false x ys h1.2, List.filter_cons_of_pos (by simpa using h'), List.filter_cons_of_neg (by simp; omega)]
      rfl
    · unfold setR
      rw [if_pos h', setR_gt x ys (fun z hz => by have := h1.1 z hz; omega), List.filter_cons_of_neg (by simp; omega), List.filter_cons_of_neg (by simp; omega), filter_none (fun z hz => by have := h1.1 z hz; simp; omega), List.filter_eq_self.2 (fun z hz => by have := h1.1 z hz; simp; omega)]
      rfl
    · rw [setR_gt x (y :: ys) (fun z hz => by
        rcases List.mem_cons.1 hz with rfl | hz
        · exact h'
        · have := h1.1 z hz; omega)]
      rw [filter_none (fun z hz => by
        rcases List.mem_cons.1 hz with rfl | hz
        · simp; omega
        · have := h1.1 z hz; simp; omega), List.filter_eq_self.2 (fun z hz => by
        rcases List.mem_cons.1 hz with rfl | hz
        · simp; omega
        · have := h1.1 z hz; simp; omega)]
      rfl
theorem filter_ne_split {r : Int} : ∀ L : List Lin, L.Pairwise (fun x y => x.rank < y.rank) → L.filter (fun y => decide (y.rank ≠ r)) = L.filter (fun y => decide (y.rank < r)) ++ L.filter (fun y => decide (r < y.rank))
  | [], _ => rfl
  | y :: ys, h => by
    have h1 := List.pairwise_cons.1 h
    rcases Int.lt_trichotomy y.rank r with h' | h' | h'
    · rw [List.filter_cons_of_pos (by simp; omega), List.filter_cons_of_pos (by simpa using h'), List.filter_cons_of_neg (by simp; omega), filter_ne_split ys h1.2]; rfl
    · rw [List.filter_cons_of_neg (by simp; omega), List.filter_cons_of_neg (by simp; omega), List.filter_cons_of_neg (by simp; omega), filter_ne_split ys h1.2]
    · rw [List.filter_eq_self.2 (fun z hz => by
        rcases List.mem_cons.1 hz with rfl | hz
        · simp; omega
        · have := h1.1 z hz; simp; omega), filter_none (fun z hz => by
        rcases List.mem_cons.1 hz with rfl | hz
        · simp; omega
        · have := h1.1 z hz; simp; omega), List.filter_eq_self.2 (fun z hz => by
        rcases List.mem_cons.1 hz with rfl | hz
        · simp; omega
        · have := h1.1 z hz; simp; omega)]
      rfl
theorem setR_eq {L : List Lin} (h : L.Pairwise (fun x y => x.rank < y.rank)) (x : Lin) : setR x L (decide (x.lim = 0)) = setL L x := by
  unfold setL
  by_cases h0 : x.lim = 0
  · rw [decide_eq_true h0, setR_true, if_pos h0, filter_ne_split L h]; simp
  · rw [decide_eq_false h0, setR_false x L h, if_neg h0]; simp
/-! A party among others. -/
def openU (P : List Int) (p : Int) : Nat → List Int
  | 0 => []
  | k + 1 => openU P p k ++ (if ((k + 1 : Nat) : Int) = p ∨ ((k + 1 : Nat) : Int) ∈ P then [((k + 1 : Nat) : Int)] else [])
theorem openU_mem (P : List Int) (p q : Int) : ∀ k, q ∈ openU P p k ↔ (1 ≤ q ∧ q ≤ k) ∧ (q = p ∨ q ∈ P)
  | 0 => by simp [openU]; omega
  | k + 1 => by
    rw [openU, List.mem_append, openU_mem P p q k]
    constructor
    · rintro (⟨h, h'⟩ | h)
      · exact ⟨by omega, h'⟩
      · split at h
        · rename_i h'
          obtain rfl : q = ((k + 1 : Nat) : Int) := by simpa using h
          exact ⟨by omega, h'⟩
        · cases h
    · rintro ⟨h, h'⟩
      by_cases e : q = ((k + 1 : Nat) : Int)
      · subst e
        rw [if_pos h']
        exact .inr (by simp)
      · exact .inl ⟨by omega, h'⟩
theorem openU_sorted (P : List Int) (p : Int) : ∀ k, (openU P p k).Pairwise (· < ·)
  | 0 => .nil
  | k + 1 => by
    rw [openU, List.pairwise_append]
    refine ⟨openU_sorted P p k, by split <;> simp, fun a ha b hb => ?_⟩
    have := (openU_mem P p a k).1 ha
    split at hb
    · obtain rfl : b = ((k + 1 : Nat) : Int) := by simpa using hb
      omega
    · cases hb
theorem openU_len (P : List Int) (p : Int) : ∀ k, (openU P p k).length ≤ k
  | 0 => by simp [openU]
  | k + 1 => by
    have := openU_len P p k
    rw [openU, List.length_append]
    split <;> simp <;> omega
theorem sortedI_ext : ∀ {L M : List Int}, L.Pairwise (· < ·) → M.Pairwise (· < ·) → (∀ z, z ∈ L ↔ z ∈ M) → L = M
  | [], [], _, _, _ => rfl
  | [], b :: M, _, _, h => by have := (h b).2 (List.mem_cons_self ..); cases this
  | a :: L, [], _, _, h => by have := (h a).1 (List.mem_cons_self ..); cases this
  | a :: L, b :: M, hL, hM, h => by
    have h1 := List.pairwise_cons.1 hL
    have h2 := List.pairwise_cons.1 hM
    have e : a = b := by
      rcases List.mem_cons.1 ((h a).1 (List.mem_cons_self ..)) with e | ha
      · exact e
      · rcases List.mem_cons.1 ((h b).2 (List.mem_cons_self ..)) with e | hb
        · exact e.symm
        · have := h1.1 _ hb; have := h2.1 _ ha; omega
    subst e
    congr 1
    refine sortedI_ext h1.2 h2.2 fun z => ⟨fun hz => ?_, fun hz => ?_⟩
    · rcases List.mem_cons.1 ((h z).1 (List.mem_cons_of_mem _ hz)) with e | hz'
      · subst e; have := h1.1 _ hz; omega
      · exact hz'
    · rcases List.mem_cons.1 ((h z).2 (List.mem_cons_of_mem _ hz)) with e | hz'
      · subst e; have := h2.1 _ hz; omega
      · exact hz'
theorem openU_eq {S : Lgr} (G : S.Good) {p : Int} (h : openE S p = 0) : openU S.P p 16 = insP S.P p := by
  obtain ⟨h1, h2⟩ := openE_ok h
  refine sortedI_ext (openU_sorted _ _ _) (insP_sorted G.par p) fun q => ?_
  rw [openU_mem, insP_mem]
  constructor
  · rintro ⟨_, h | h⟩
    · exact .inr h
    · exact .inl h
  · rintro (h | rfl)
    · exact ⟨G.par1 q h, .inr h⟩
    · exact ⟨h1, .inl rfl⟩
theorem sortedI_len : ∀ {L : List Int} {lo hi : Int}, L.Pairwise (· < ·) → (∀ z ∈ L, lo ≤ z ∧ z ≤ hi) → (L.length : Int) ≤ max 0 (hi - lo + 1)
  | [], _, _, _, _ => by simp; omega
  | a :: L, lo, hi, h, hb => by
    have h1 := List.pairwise_cons.1 h
    have ha := hb a (List.mem_cons_self ..)
    have := sortedI_len (lo := a + 1) (hi := hi) h1.2 (fun z hz => ⟨by have := h1.1 z hz; omega, (hb z (List.mem_cons_of_mem _ hz)).2⟩)
    simp only [List.length_cons, Int.natCast_add, Int.natCast_one]
    omega
theorem Lgr.Good.few16 {S : Lgr} (G : S.Good) : S.P.length ≤ 16 := by
  have := sortedI_len G.par G.par1
  omega
end Go.Proofs.Ytacglcpjbepfnaa
