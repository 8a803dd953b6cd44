/- Positions and totals of a ledger's lines. -/
import Derived.Test.YtacglcpjbepfnaaLedMap
namespace Go.Proofs.Ytacglcpjbepfnaa
section
variable {S : Lgr} {L : List Lin} {cr db cu : Int}
def posX (x : Lin) (p c : Int) : Int := (if x.cu = c ∧ x.cr = p then x.deb else 0) - (if x.cu = c ∧ x.db = p then x.deb else 0)
theorem posL_cons (x : Lin) (L : List Lin) (p c : Int) : posL (x :: L) p c = posX x p c + posL L p c := by simp [posL, posX]
theorem posL_snoc (L : List Lin) (x : Lin) (p c : Int) : posL (L ++ [x]) p c = posL L p c + posX x p c := by simp [posL, posX]
theorem totL_snoc (L : List Lin) (x : Lin) (c : Int) : totL (L ++ [x]) c = totL L c + (if x.cu = c then x.deb else 0) := by simp [totL]
theorem posL_bound (h : ∀ x ∈ L, 0 ≤ x.deb ∧ x.deb ≤ 1099511627776) (p c : Int) : -(1099511627776 * (L.length : Int)) ≤ posL L p c ∧ posL L p c ≤ 1099511627776 * (L.length : Int) := by
  induction L with
  | nil => simp [posL]
  | cons x L ih =>
    have := ih (fun y hy => h y (List.mem_cons_of_mem _ hy))
    have h0 := h x (List.mem_cons_self ..)
    rw [posL_cons]
    simp only [List.length_cons, Int.natCast_add, Int.natCast_one]
    unfold posX
    split <;> split <;> omega
theorem totL_bound (h : ∀ x ∈ L, 0 ≤ x.deb ∧ x.deb ≤ 1099511627776) (c : Int) : 0 ≤ totL L c ∧ totL L c ≤ 1099511627776 * (L.length : Int) := by
  induction L with
  | nil => simp [totL]
  | cons x L ih =>
    have := ih (fun y hy => h y (List.mem_cons_of_mem _ hy))
    have h0 := h x (List.mem_cons_self ..)
    unfold totL at *
    simp only [List.map_cons, List.sum_cons, List.length_cons, Int.natCast_add, Int.natCast_one]
    split <;> omega
theorem Lgr.Good.debs (G : S.Good) : ∀ x ∈ S.L, 0 ≤ x.deb ∧ x.deb ≤ 1099511627776 := fun x hx => by
  have := G.ok x hx
  have h1 := this.lim
  have h2 := this.deb
  omega
theorem Lgr.Good.posB (G : S.Good) (p c : Int) : -70368744177664 ≤ posL S.L p c ∧ posL S.L p c ≤ 70368744177664 := by
  have := posL_bound G.debs p c
  have := G.few
  omega
theorem Lgr.Good.totB (G : S.Good) (c : Int) : 0 ≤ totL S.L c ∧ totL S.L c ≤ 70368744177664 := by
  have := totL_bound G.debs c
  have := G.few
  omega
/-- One of those that are told apart by their ends is counted once. -/
theorem pos_add_aux : ∀ {L : List Lin}, L.Pairwise (fun x y => x.rank < y.rank) → ∀ (n p c : Int), posL (addL L cr db cu n) p c = posL L p c + (if isLine L cr db cu = true ∧ cu = c then (if cr = p then n else 0) - (if db = p then n else 0) else 0)
  | [], _, n, p, c => by simp [addL, isLine, lineOf, posL]
  | x :: L, h, n, p, c => by
    have h1 := List.pairwise_cons.1 h
    have ih := pos_add_aux h1.2 n p c
    have e : addL (x :: L) cr db cu n = (if x.at cr db cu then { x with deb := x.deb + n } else x) :: addL L cr db cu n := rfl
    rw [e, posL_cons, posL_cons]
    by_cases ha : x.at cr db cu = true
    · have hno : isLine L cr db cu = false := by
        rw [isLine_not]
        intro y hy
        rw [Lin.at_not]
        intro e2
        have e1 := Lin.at_iff.1 ha
        have := h1.1 y hy
        unfold Lin.rank at this
        rw [e1.1, e1.2.1, e1.2.2, e2.1, e2.2.1, e2.2.2] at this
        omega
      have hyes : isLine (x :: L) cr db cu = true := isLine_iff.2 ⟨x, List.mem_cons_self .., ha⟩
      rw [addL_none hno, if_pos ha, hyes]
      obtain ⟨e1, e2, e3⟩ := Lin.at_iff.1 ha
      unfold posX
      simp only [e1, e2, e3, true_and]
      split <;> split <;> split <;> simp_all <;> omega
    · have hsame : isLine (x :: L) cr db cu = isLine L cr db cu := by
        unfold isLine lineOf
        rw [List.find?_cons_of_neg (by simpa using ha)]
      rw [if_neg ha, ih, hsame]
      omega
theorem Lgr.Good.pos_add (G : S.Good) (n p c : Int) : posL (addL S.L cr db cu n) p c = posL S.L p c + (if isLine S.L cr db cu = true ∧ cu = c then (if cr = p then n else 0) - (if db = p then n else 0) else 0) := pos_add_aux G.ord n p c
/-- All positions up to some party come to 0, where all ends are below. -/
def sumPos (L : List Lin) (c : Int) : Nat → Int
  | 0 => 0
  | k + 1 => sumPos L c k + posL L k c
theorem sumPos_add (x : Lin) (L : List Lin) (c : Int) : ∀ k, sumPos (x :: L) c k = sumPos [x] c k + sumPos L c k
  | 0 => rfl
  | k + 1 => by
    rw [sumPos, sumPos, sumPos, sumPos_add x L c k, posL_cons, posL_cons]
    simp [posL]; omega
theorem sumPos_one (x : Lin) (c : Int) (h1 : 0 ≤ x.cr) (h2 : 0 ≤ x.db) : ∀ k : Nat, sumPos [x] c k = (if x.cu = c ∧ x.cr < k then x.deb else 0) - (if x.cu = c ∧ x.db < k then x.deb else 0)
  | 0 => by
    have e1 : ¬ (x.cu = c ∧ x.cr < ((0 : Nat) : Int)) := by omega
    have e2 : ¬ (x.cu = c ∧ x.db < ((0 : Nat) : Int)) := by omega
    rw [if_neg e1, if_neg e2]; rfl
  | k + 1 => by
    rw [sumPos, sumPos_one x c h1 h2 k, posL_cons]
    unfold posX
    have e0 : posL [] (k : Int) c = 0 := rfl
    rw [e0]
    by_cases hc : x.cu = c
    · simp only [hc, true_and]
      have e1 : (x.cr < ((k + 1 : Nat) : Int)) ↔ (x.cr < (k : Int) ∨ x.cr = k) := by omega
      have e2 : (x.db < ((k + 1 : Nat) : Int)) ↔ (x.db < (k : Int) ∨ x.db = k) := by omega
      simp only [e1, e2]
      (repeat' split) <;> omega
    · simp [hc]
theorem sumPos_zero (c : Int) (k : Nat) : ∀ (L : List Lin), (∀ x ∈ L, (0 ≤ x.cr ∧ x.cr < k) ∧ (0 ≤ x.db ∧ x.db < k)) → sumPos L c k = 0
  | [], _ => by
    induction k with
    | zero => rfl
    | succ k ih => rw [sumPos, ih (fun x hx => by cases hx)]; rfl
  | x :: L, h => by
    have h0 := h x (List.mem_cons_self ..)
    rw [sumPos_add, sumPos_zero c k L (fun y hy => h y (List.mem_cons_of_mem _ hy)), sumPos_one x c h0.1.1 h0.2.1]
    by_cases hc : x.cu = c
    · rw [if_pos ⟨hc, h0.1.2⟩, if_pos ⟨hc, h0.2.2⟩]; omega
    · rw [if_neg (fun h => hc h.1), if_neg (fun h => hc h.1)]; rfl
theorem Lgr.Good.sum0 (G : S.Good) (c : Int) : sumPos S.L c 20 = 0 := sumPos_zero c 20 _ fun x hx => by
  have := G.small hx
  omega
/-! A push. -/
theorem push_pos (G : S.Good) {f t c n : Int} (h : pushE S f t c n = 0) (p c' : Int) : posL (pushS S f t c n).L p c' = posL S.L p c' + (if c = c' then (if p = t then n else 0) - (if p = f then n else 0) else 0) := by
  obtain ⟨h1, h2, h3, h4, h5⟩ := G.push0 h
  have GA := G.pushA h
  unfold pushS
  rw [if_pos h]
  simp only
  rw [GA.pos_add, G.pos_add]
  simp only [isLine_add]
  have n1 := G.nums f t c
  have n2 := G.nums t f c
  unfold roomOf at h2
  by_cases hc : c = c'
  · subst hc
    simp only [and_true, if_true]
    cases hl : isLine S.L f t c <;> cases hm : isLine S.L t f c
    · have := Lgr.Good.noLine hl; have := Lgr.Good.noLine hm; omega
    · have e1 := (Lgr.Good.noLine hl).2.2
      have : fallOf S f t c n = 0 := by unfold fallOf; rw [e1]; omega
      rw [this]
      simp only [Bool.false_eq_true, if_false, if_true, Int.sub_zero, Int.add_zero, eq_comm (a := p)]
    · have e1 := Lgr.Good.noLine hm
      have : fallOf S f t c n = n := by unfold fallOf; omega
      rw [this]
      simp only [Bool.false_eq_true, if_false, if_true, Int.add_zero, eq_comm (a := p)]
      split <;> split <;> omega
    · simp only [if_true, eq_comm (a := p)]
      generalize fallOf S f t c n = k
      split <;> split <;> omega
  · simp [hc]
theorem push_room (G : S.Good) {f t c n : Int} (h : pushE S f t c n = 0) : roomOf (pushS S f t c n) f t c = roomOf S f t c - n ∧ roomOf (pushS S f t c n) t f c = roomOf S t f c + n := by
  obtain ⟨h1, h2, h3, h4, h5⟩ := G.push0 h
  have n1 := G.nums f t c
  have n2 := G.nums t f c
  unfold pushS
  rw [if_pos h]
  unfold roomOf at h2 ⊢
  simp only [debOf_add, limOf_add, isLine_add]
  have e1 : ¬ (f = t ∧ t = f ∧ True) := fun h => h3 h.1
  have e2 : ¬ (t = f ∧ f = t ∧ True) := fun h => h3 h.2.1
  cases hl : isLine S.L f t c <;> cases hm : isLine S.L t f c
  · have := Lgr.Good.noLine hl; have := Lgr.Good.noLine hm; omega
  · have e3 := Lgr.Good.noLine hl
    have : fallOf S f t c n = 0 := by unfold fallOf; rw [e3.2.2]; omega
    rw [this]
    simp [h3, Ne.symm h3]; omega
  · have e3 := Lgr.Good.noLine hm
    have : fallOf S f t c n = n := by unfold fallOf; omega
    rw [this]
    simp [h3, Ne.symm h3]; omega
  · simp [h3, Ne.symm h3]
    generalize fallOf S f t c n = k
    omega
end
end Go.Proofs.Ytacglcpjbepfnaa
