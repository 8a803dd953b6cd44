/- Part 3 of what several laws stand on: LedMap, LedPos, HeapMore, HeapOwn, HeapSlide, Grw, CmpP, HeapRegion, Cells, Bfs, MayP, Flw. -/
import Derived.Test.YtgobnamhdkbbeaaNetGPart2
import Derived.Lib.AppendZeros
import Derived.Laws.MakeOwn
import Derived.Laws.OwnMore
import Derived.Lib.BufferMore
import Derived.Sort.Grow
import Derived.Lib.Small
/- A ledger's map: its lines as pairs; what a look, a put, a delete make of it. -/
namespace Go.Proofs.Ytgobnamhdkbbeaa
open Go.RowKit
abbrev ends (cr : Int) (db : Int) (cu : Int) : Array Value := #[.int .u8 cr, .int .u8 db, .int .u8 cu]
section
variable (cr : Int) (db : Int) (cu : Int)
theorem ends_sz : (ends cr db cu).size = 3 := rfl
theorem ends_g0 : (ends cr db cu)[0]? = some (.int .u8 cr) := rfl
theorem ends_s0 (v : Int) : (ends cr db cu).setIfInBounds 0 (.int .u8 v) = ends v db cu := rfl
theorem ends_g1 : (ends cr db cu)[1]? = some (.int .u8 db) := rfl
theorem ends_s1 (v : Int) : (ends cr db cu).setIfInBounds 1 (.int .u8 v) = ends cr v cu := rfl
theorem ends_g2 : (ends cr db cu)[2]? = some (.int .u8 cu) := rfl
theorem ends_s2 (v : Int) : (ends cr db cu).setIfInBounds 2 (.int .u8 v) = ends cr db v := rfl
end
abbrev owe (lim : Int) (deb : Int) : Array Value := #[.int .i64 lim, .int .i64 deb]
section
variable (lim : Int) (deb : Int)
theorem owe_sz : (owe lim deb).size = 2 := rfl
theorem owe_g0 : (owe lim deb)[0]? = some (.int .i64 lim) := rfl
theorem owe_s0 (v : Int) : (owe lim deb).setIfInBounds 0 (.int .i64 v) = owe v deb := rfl
theorem owe_g1 : (owe lim deb)[1]? = some (.int .i64 deb) := rfl
theorem owe_s1 (v : Int) : (owe lim deb).setIfInBounds 1 (.int .i64 v) = owe lim v := rfl
end
abbrev keyL (cr db cu : Int) : Value := .agg (ends cr db cu)
abbrev valL (lim deb : Int) : Value := .agg (owe lim deb)
def kvL (x : Lin) : Value × Value := (keyL x.cr x.db x.cu, valL x.lim x.deb)
def prs (L : List Lin) : List (Value × Value) := L.map kvL
theorem prs_len (L : List Lin) : (prs L).length = L.length := by simp [prs]
theorem keyL_inj {a b c a' b' c' : Int} : keyL a b c = keyL a' b' c' ↔ a = a' ∧ b = b' ∧ c = c' := by simp [keyL]
section
variable {S : Lgr} {x : Lin} {cr db cu : Int}
theorem look_line (G : S.Good) (cr db cu : Int) : Look (prs S.L) (keyL cr db cu) (valL 0 0) (isLine S.L cr db cu) (valL (limOf S.L cr db cu) (debOf S.L cr db cu)) := by
  rcases G.split cr db cu with ⟨x, hx, e1, e2, e3, _, h2, h3, h4⟩ | ⟨hn, _, h2, h3, h4⟩
  · rw [h2, h3, h4]
    exact .inl ⟨rfl, List.mem_map.2 ⟨x, hx, by rw [kvL, e1, e2, e3]⟩⟩
  · rw [h2, h3, h4]
    refine .inr ⟨rfl, rfl, fun e he hk => ?_⟩
    obtain ⟨x, hx, rfl⟩ := List.mem_map.1 he
    have := hn x hx
    rw [Lin.at_not] at this
    exact this (keyL_inj.1 hk)
def Small (x : Lin) : Prop := (0 ≤ x.cr ∧ x.cr < 256) ∧ (0 ≤ x.db ∧ x.db < 256)
theorem Lgr.Good.smalls (G : S.Good) : ∀ x ∈ S.L, Small x := fun x hx => by
  have := G.small hx
  unfold Small; omega
theorem sorted_nodup {L : List Lin} (h : L.Pairwise (fun x y => x.rank < y.rank)) : L.Nodup := h.imp (fun h e => by rw [e] at h; omega)
def restL (L : List Lin) (x : Lin) : List Lin := L.filter (fun y => decide (y.rank ≠ x.rank))
theorem restL_mem {L : List Lin} {z : Lin} : z ∈ restL L x ↔ z ∈ L ∧ z.rank ≠ x.rank := by simp [restL]
theorem without {L : List Lin} (ho : L.Pairwise (fun x y => x.rank < y.rank)) (hs : ∀ y ∈ L, Small y) (hx : Small x) :
    (∀ e ∈ prs (restL L x), e.1 ≠ keyL x.cr x.db x.cu) ∧ ((prs L).Perm (prs (restL L x)) ∨ ∃ v0, (prs L).Perm ((keyL x.cr x.db x.cu, v0) :: prs (restL L x))) := by
  refine ⟨fun e he hk => ?_, ?_⟩
  · obtain ⟨y, hy, rfl⟩ := List.mem_map.1 he
    obtain ⟨h1, h2, h3⟩ := keyL_inj.1 hk
    refine (restL_mem.1 hy).2 ?_
    unfold Lin.rank
    rw [h1, h2, h3]
  · by_cases h : ∃ y ∈ L, y.rank = x.rank
    · obtain ⟨y, hy, hr⟩ := h
      have hsy := hs y hy
      unfold Small at hsy hx
      obtain ⟨e1, e2, e3⟩ := rank_inj hsy.1 hsy.2 hx.1 hx.2 hr
      refine .inr ⟨valL y.lim y.deb, ?_⟩
      have hp : L.Perm (y :: restL L x) := by
        refine (List.perm_ext_iff_of_nodup (sorted_nodup ho) (List.nodup_cons.2 ⟨fun h => (restL_mem.1 h).2 hr, (sorted_nodup ho).filter _⟩)).2 fun z => ?_
        rw [List.mem_cons, restL_mem]
        constructor
        · intro hz
          by_cases e : z.rank = x.rank
          · exact .inl (pw_inj ho hz hy (e.trans hr.symm))
          · exact .inr ⟨hz, e⟩
        · rintro (rfl | h)
          · exact hy
          · exact h.1
      have := hp.map kvL
      rw [List.map_cons] at this
      rw [show kvL y = (keyL x.cr x.db x.cu, valL y.lim y.deb) by rw [kvL, e1, e2, e3]] at this
      exact this
    · refine .inl ?_
      have : restL L x = L := List.filter_eq_self.2 fun y hy => by
        simp only [decide_eq_true_eq]
        exact fun e => h ⟨y, hy, e⟩
      rw [this]
theorem setL_perm {L : List Lin} (ho : L.Pairwise (fun x y => x.rank < y.rank)) (h : x.lim ≠ 0) : (setL L x).Perm (x :: restL L x) := by
  refine (List.perm_ext_iff_of_nodup (sorted_nodup (setL_sorted ho x)) (List.nodup_cons.2 ⟨fun h => (restL_mem.1 h).2 rfl, (sorted_nodup ho).filter _⟩)).2 fun z => ?_
  rw [setL_mem, List.mem_cons, restL_mem]
  constructor
  · rintro (h' | ⟨_, rfl⟩)
    · exact .inr h'
    · exact .inl rfl
  · rintro (rfl | h')
    · exact .inr ⟨h, rfl⟩
    · exact .inl h'
theorem setL_perm0 {L : List Lin} (ho : L.Pairwise (fun x y => x.rank < y.rank)) (h : x.lim = 0) : (setL L x).Perm (restL L x) := by
  refine (List.perm_ext_iff_of_nodup (sorted_nodup (setL_sorted ho x)) ((sorted_nodup ho).filter _)).2 fun z => ?_
  show _ ↔ z ∈ restL L x
  rw [setL_mem, restL_mem]
  constructor
  · rintro (h' | ⟨h', _⟩)
    · exact h'
    · exact absurd h h'
  · exact .inl
theorem put_set {L : List Lin} (ho : L.Pairwise (fun x y => x.rank < y.rank)) (hs : ∀ y ∈ L, Small y) (hx : Small x) (h : x.lim ≠ 0) : PutM (prs L) (keyL x.cr x.db x.cu) (valL x.lim x.deb) (prs (setL L x)) :=
  ⟨prs (restL L x), (without ho hs hx).1, (without ho hs hx).2, (setL_perm ho h).map kvL⟩
theorem del_set {L : List Lin} (ho : L.Pairwise (fun x y => x.rank < y.rank)) (hs : ∀ y ∈ L, Small y) (hx : Small x) (h : x.lim = 0) : DelM (prs L) (keyL x.cr x.db x.cu) (prs (setL L x)) :=
  ⟨prs (restL L x), (without ho hs hx).1, (without ho hs hx).2, (setL_perm0 ho h).map kvL⟩
theorem addL_sorted {L : List Lin} (ho : L.Pairwise (fun x y => x.rank < y.rank)) (n : Int) : (addL L cr db cu n).Pairwise (fun x y => x.rank < y.rank) := by
  have : ((addL L cr db cu n).map (·.rank)).Pairwise (· < ·) := by rw [addL_ranks, List.pairwise_map]; exact ho
  rwa [List.pairwise_map] at this
/-- More of a debt: a line set anew. -/
theorem Lgr.Good.add_set (G : S.Good) (hl : isLine S.L cr db cu = true) (n : Int) : addL S.L cr db cu n = setL S.L ⟨cr, db, cu, limOf S.L cr db cu, debOf S.L cr db cu + n⟩ := by
  obtain ⟨x, hx, ha⟩ := isLine_iff.1 hl
  obtain ⟨rfl, rfl, rfl⟩ := Lin.at_iff.1 ha
  obtain ⟨_, h2, h3, _⟩ := G.vals hx
  rw [h2, h3]
  have hlim : x.lim ≠ 0 := by have := (G.ok x hx).lim; omega
  refine sorted_ext (addL_sorted G.ord n) (setL_sorted G.ord _) fun z => ?_
  rw [setL_mem]
  unfold addL
  rw [List.mem_map]
  constructor
  · rintro ⟨y, hy, rfl⟩
    by_cases hya : y.at x.cr x.db x.cu = true
    · rw [if_pos hya]
      have e := Lin.at_iff.1 hya
      have : y = x := G.uniq hy hx (by unfold Lin.rank; rw [e.1, e.2.1, e.2.2])
      subst this
      exact .inr ⟨hlim, rfl⟩
    · rw [if_neg hya]
      refine .inl ⟨hy, fun e => hya ?_⟩
      have : y = x := G.uniq hy hx e
      subst this
      exact ha
  · rintro (⟨hz, hr⟩ | ⟨_, rfl⟩)
    · refine ⟨z, hz, ?_⟩
      rw [if_neg]
      intro hza
      have e := Lin.at_iff.1 hza
      exact hr (by unfold Lin.rank; rw [e.1, e.2.1, e.2.2])
    · exact ⟨x, hx, by rw [if_pos ha]⟩
end
end Go.Proofs.Ytgobnamhdkbbeaa

/- Positions and totals of a ledger's lines. -/
namespace Go.Proofs.Ytgobnamhdkbbeaa
section
variable {S : Lgr} {L : List Lin} {cr db cu : Int}
def posX (x : Lin) (p c : Int) : Int := (if x.cu = c ∧ x.cr = p then x.deb else 0) - (if x.cu = c ∧ x.db = p then x.deb else 0)
theorem posL_cons (x : Lin) (L : List Lin) (p c : Int) : posL (x :: L) p c = posX x p c + posL L p c := by simp [posL, posX]
theorem posL_snoc (L : List Lin) (x : Lin) (p c : Int) : posL (L ++ [x]) p c = posL L p c + posX x p c := by simp [posL, posX]
theorem totL_snoc (L : List Lin) (x : Lin) (c : Int) : totL (L ++ [x]) c = totL L c + (if x.cu = c then x.deb else 0) := by simp [totL]
theorem posL_bound (h : ∀ x ∈ L, 0 ≤ x.deb ∧ x.deb ≤ 1099511627776) (p c : Int) : -(1099511627776 * (L.length : Int)) ≤ posL L p c ∧ posL L p c ≤ 1099511627776 * (L.length : Int) := by
  induction L with
  | nil => simp [posL]
  | cons x L ih =>
    have := ih (fun y hy => h y (List.mem_cons_of_mem _ hy))
    have h0 := h x (List.mem_cons_self ..)
    rw [posL_cons]
    simp only [List.length_cons, Int.natCast_add, Int.natCast_one]
    unfold posX
    split <;> split <;> omega
theorem totL_bound (h : ∀ x ∈ L, 0 ≤ x.deb ∧ x.deb ≤ 1099511627776) (c : Int) : 0 ≤ totL L c ∧ totL L c ≤ 1099511627776 * (L.length : Int) := by
  induction L with
  | nil => simp [totL]
  | cons x L ih =>
    have := ih (fun y hy => h y (List.mem_cons_of_mem _ hy))
    have h0 := h x (List.mem_cons_self ..)
    unfold totL at *
    simp only [List.map_cons, List.sum_cons, List.length_cons, Int.natCast_add, Int.natCast_one]
    split <;> omega
theorem Lgr.Good.debs (G : S.Good) : ∀ x ∈ S.L, 0 ≤ x.deb ∧ x.deb ≤ 1099511627776 := fun x hx => by
  have := G.ok x hx
  have h1 := this.lim
  have h2 := this.deb
  omega
theorem Lgr.Good.posB (G : S.Good) (p c : Int) : -70368744177664 ≤ posL S.L p c ∧ posL S.L p c ≤ 70368744177664 := by
  have := posL_bound G.debs p c
  have := G.few
  omega
theorem Lgr.Good.totB (G : S.Good) (c : Int) : 0 ≤ totL S.L c ∧ totL S.L c ≤ 70368744177664 := by
  have := totL_bound G.debs c
  have := G.few
  omega
/-- One of those that are told apart by their ends is counted once. -/
theorem pos_add_aux : ∀ {L : List Lin}, L.Pairwise (fun x y => x.rank < y.rank) → ∀ (n p c : Int), posL (addL L cr db cu n) p c = posL L p c + (if isLine L cr db cu = true ∧ cu = c then (if cr = p then n else 0) - (if db = p then n else 0) else 0)
  | [], _, n, p, c => by simp [addL, isLine, lineOf, posL]
  | x :: L, h, n, p, c => by
    have h1 := List.pairwise_cons.1 h
    have ih := pos_add_aux h1.2 n p c
    have e : addL (x :: L) cr db cu n = (if x.at cr db cu then { x with deb := x.deb + n } else x) :: addL L cr db cu n := rfl
    rw [e, posL_cons, posL_cons]
    by_cases ha : x.at cr db cu = true
    · have hno : isLine L cr db cu = false := by
        rw [isLine_not]
        intro y hy
        rw [Lin.at_not]
        intro e2
        have e1 := Lin.at_iff.1 ha
        have := h1.1 y hy
        unfold Lin.rank at this
        rw [e1.1, e1.2.1, e1.2.2, e2.1, e2.2.1, e2.2.2] at this
        omega
      have hyes : isLine (x :: L) cr db cu = true := isLine_iff.2 ⟨x, List.mem_cons_self .., ha⟩
      rw [addL_none hno, if_pos ha, hyes]
      obtain ⟨e1, e2, e3⟩ := Lin.at_iff.1 ha
      unfold posX
      simp only [e1, e2, e3, true_and]
      split <;> split <;> split <;> simp_all <;> omega
    · have hsame : isLine (x :: L) cr db cu = isLine L cr db cu := by
        unfold isLine lineOf
        rw [List.find?_cons_of_neg (by simpa using ha)]
      rw [if_neg ha, ih, hsame]
      omega
theorem Lgr.Good.pos_add (G : S.Good) (n p c : Int) : posL (addL S.L cr db cu n) p c = posL S.L p c + (if isLine S.L cr db cu = true ∧ cu = c then (if cr = p then n else 0) - (if db = p then n else 0) else 0) := pos_add_aux G.ord n p c
/-- All positions up to some party come to 0, where all ends are below. -/
def sumPos (L : List Lin) (c : Int) : Nat → Int
  | 0 => 0
  | k + 1 => sumPos L c k + posL L k c
theorem sumPos_add (x : Lin) (L : List Lin) (c : Int) : ∀ k, sumPos (x :: L) c k = sumPos [x] c k + sumPos L c k
  | 0 => rfl
  | k + 1 => by
    rw [sumPos, sumPos, sumPos, sumPos_add x L c k, posL_cons, posL_cons]
    simp [posL]; omega
theorem sumPos_one (x : Lin) (c : Int) (h1 : 0 ≤ x.cr) (h2 : 0 ≤ x.db) : ∀ k : Nat, sumPos [x] c k = (if x.cu = c ∧ x.cr < k then x.deb else 0) - (if x.cu = c ∧ x.db < k then x.deb else 0)
  | 0 => by
    have e1 : ¬ (x.cu = c ∧ x.cr < ((0 : Nat) : Int)) := by omega
    have e2 : ¬ (x.cu = c ∧ x.db < ((0 : Nat) : Int)) := by omega
    rw [if_neg e1, if_neg e2]; rfl
  | k + 1 => by
    rw [sumPos, sumPos_one x c h1 h2 k, posL_cons]
    unfold posX
    have e0 : posL [] (k : Int) c = 0 := rfl
    rw [e0]
    by_cases hc : x.cu = c
    · simp only [hc, true_and]
      have e1 : (x.cr < ((k + 1 : Nat) : Int)) ↔ (x.cr < (k : Int) ∨ x.cr = k) := by omega
      have e2 : (x.db < ((k + 1 : Nat) : Int)) ↔ (x.db < (k : Int) ∨ x.db = k) := by omega
      simp only [e1, e2]
      (repeat' split) <;> omega
    · simp [hc]
theorem sumPos_zero (c : Int) (k : Nat) : ∀ (L : List Lin), (∀ x ∈ L, (0 ≤ x.cr ∧ x.cr < k) ∧ (0 ≤ x.db ∧ x.db < k)) → sumPos L c k = 0
  | [], _ => by
    induction k with
    | zero => rfl
    | succ k ih => rw [sumPos, ih (fun x hx => by cases hx)]; rfl
  | x :: L, h => by
    have h0 := h x (List.mem_cons_self ..)
    rw [sumPos_add, sumPos_zero c k L (fun y hy => h y (List.mem_cons_of_mem _ hy)), sumPos_one x c h0.1.1 h0.2.1]
    by_cases hc : x.cu = c
    · rw [if_pos ⟨hc, h0.1.2⟩, if_pos ⟨hc, h0.2.2⟩]; omega
    · rw [if_neg (fun h => hc h.1), if_neg (fun h => hc h.1)]; rfl
theorem Lgr.Good.sum0 (G : S.Good) (c : Int) : sumPos S.L c 20 = 0 := sumPos_zero c 20 _ fun x hx => by
  have := G.small hx
  omega
/-! A push. -/
theorem push_pos (G : S.Good) {f t c n : Int} (h : pushE S f t c n = 0) (p c' : Int) : posL (pushS S f t c n).L p c' = posL S.L p c' + (if c = c' then (if p = t then n else 0) - (if p = f then n else 0) else 0) := by
  obtain ⟨h1, h2, h3, h4, h5⟩ := G.push0 h
  have GA := G.pushA h
  unfold pushS
  rw [if_pos h]
  simp only
  rw [GA.pos_add, G.pos_add]
  simp only [isLine_add]
  have n1 := G.nums f t c
  have n2 := G.nums t f c
  unfold roomOf at h2
  by_cases hc : c = c'
  · subst hc
    simp only [and_true, if_true]
    cases hl : isLine S.L f t c <;> cases hm : isLine S.L t f c
    · have := Lgr.Good.noLine hl; have := Lgr.Good.noLine hm; omega
    · have e1 := (Lgr.Good.noLine hl).2.2
      have : fallOf S f t c n = 0 := by unfold fallOf; rw [e1]; omega
      rw [this]
      simp only [Bool.false_eq_true, if_false, if_true, Int.sub_zero, Int.add_zero, eq_comm (a := p)]
    · have e1 := Lgr.Good.noLine hm
      have : fallOf S f t c n = n := by unfold fallOf; omega
      rw [this]
      simp only [Bool.false_eq_true, if_false, if_true, Int.add_zero, eq_comm (a := p)]
      split <;> split <;> omega
    · simp only [if_true, eq_comm (a := p)]
      generalize fallOf S f t c n = k
      split <;> split <;> omega
  · simp [hc]
theorem push_room (G : S.Good) {f t c n : Int} (h : pushE S f t c n = 0) : roomOf (pushS S f t c n) f t c = roomOf S f t c - n ∧ roomOf (pushS S f t c n) t f c = roomOf S t f c + n := by
  obtain ⟨h1, h2, h3, h4, h5⟩ := G.push0 h
  have n1 := G.nums f t c
  have n2 := G.nums t f c
  unfold pushS
  rw [if_pos h]
  unfold roomOf at h2 ⊢
  simp only [debOf_add, limOf_add, isLine_add]
  have e1 : ¬ (f = t ∧ t = f ∧ True) := fun h => h3 h.1
  have e2 : ¬ (t = f ∧ f = t ∧ True) := fun h => h3 h.2.1
  cases hl : isLine S.L f t c <;> cases hm : isLine S.L t f c
  · have := Lgr.Good.noLine hl; have := Lgr.Good.noLine hm; omega
  · have e3 := Lgr.Good.noLine hl
    have : fallOf S f t c n = 0 := by unfold fallOf; rw [e3.2.2]; omega
    rw [this]
    simp [h3, Ne.symm h3]; omega
  · have e3 := Lgr.Good.noLine hm
    have : fallOf S f t c n = n := by unfold fallOf; omega
    rw [this]
    simp [h3, Ne.symm h3]; omega
  · simp [h3, Ne.symm h3]
    generalize fallOf S f t c n = k
    omega
end
end Go.Proofs.Ytgobnamhdkbbeaa

/- More operations over a memory of things: slice literals. -/
namespace Go.Proofs.Ytgobnamhdkbbeaa
open Go.RowKit
set_option linter.unusedVariables false
set_option linter.unusedSimpArgs false
set_option maxRecDepth 100000
section
variable {ops : Array Oper} {rest : List Oper} {a : Act} {w W : World} {l : List Thing} {Q : Exit → Act → World → Prop}
/-- Slice literals of one-cell elements: the parts put in, one by one. -/
theorem fill_ones : ∀ (vs : List Value) (k : Nat) (pre post : List Value), pre.length = k → post.length = vs.length → (∀ v ∈ vs, v.cells = #[v]) → Instr.fill (fun i => some (i * 1, 1)) (pre ++ post).toArray (vs.zipIdx k |>.map fun (v, i) => (i, v)) = some (pre ++ vs).toArray
  | [], k, pre, post, hk, hl, _ => by
    have : post = [] := List.eq_nil_of_length_eq_zero (by simpa using hl)
    subst this; simp [Instr.fill]
  | v :: vs, k, pre, [], hk, hl, _ => by simp at hl
  | v :: vs, k, pre, y :: post, hk, hl, hv => by
    subst hk
    have h1 := hv v (List.mem_cons_self ..)
    simp only [List.zipIdx_cons, List.map_cons]
    unfold Instr.fill
    simp only [Nat.mul_one, h1, List.size_toArray, List.length_singleton, List.length_append, List.length_cons]
    rw [if_neg (by simp)]
    have e : (Array.foldl (fun (cs : Array Value) (x : Value × Nat) => cs.setIfInBounds (pre.length + x.2) x.1) (pre ++ y :: post).toArray (#[v] : Array Value).zipIdx) = ((pre ++ [v]) ++ post).toArray := by
      simp [List.set_append]
    rw [e]
    have := fill_ones vs (pre.length + 1) (pre ++ [v]) post (by simp) (by simpa using hl) (fun u hu => hv u (List.mem_cons_of_mem _ hu))
    simp only [Nat.mul_one] at this
    rw [this]
    simp
theorem wpl_bsOnes {dst : Option Tmp} {ty : TypeId} {pos : String} {after : Array Edge} {guard : Option (Nat × Bool)} {t e n : Nat} {z : Value} (xs : List (Nat × Operand)) (vs : List Value) (hw : Region.wanted ⟨dst, .buildSlice t n xs.toArray, ty, pos, after, guard⟩ (yielded ops a.tmps) = true)
    (hx : xs.map (fun (i, x) => (i, a.eval x)) = vs.zipIdx.map fun (v, i) => (i, v)) (hn : vs.length = n) (h0 : 0 < n) (h1 : n ≤ 65536) (hv : ∀ v ∈ vs, v.cells = #[v])
    (hT : Try.prog.underlying t = some (.slice e) ∧ (Try.prog.info? e).map (fun i => (i.size, i.zero)) = some (1, some z)) (hz : z.cells.size = 1)
    (H : Heap W l w) (h : ∀ p w', Heap W (Cel p vs.toArray e :: l) w' → wpList Try.prog ops Q rest (a.put dst (.slice (some ⟨p, 0, none⟩) n n)) w') : wpList Try.prog ops Q (⟨dst, .buildSlice t n xs.toArray, ty, pos, after, guard⟩ :: rest) a w := by
  obtain ⟨i, hi, he⟩ := Option.map_eq_some_iff.1 hT.2
  simp only [Prod.mk.injEq] at he
  have r1 : (sizeOf e).run Try.prog w = .ok 1 w := by simp [sizeOf, typeInfo, hi, he.1, go_sem]
  have r2 : (zeroValue e).run Try.prog w = .ok z w := by simp [zeroValue, typeInfo, hi, he.2, go_sem]
  have hf : Instr.fill (fun i => some (i * 1, 1)) (Array.map (fun x => z.cells[x % z.cells.size]!) (Array.range (n * 1))) (xs.toArray.map (fun (i, x) => (i, a.eval x))).toList = some vs.toArray := by
    have hx2 : (xs.toArray.map (fun (i, x) => (i, a.eval x))).toList = vs.zipIdx.map fun (v, i) => (i, v) := by rw [← hx]; simp
    rw [hx2]
    have := fill_ones vs 0 [] (List.map (fun x => z.cells[x % z.cells.size]!) (List.range (n * 1))) rfl (by simp [hn]) hv
    simp only [List.nil_append] at this
    rw [← this]
    congr 1
    apply Array.ext'
    simp
  refine BigFrame.wpList_want hw fun K hK => ?_
  have hrun : (Instr.buildSlice t n (xs.toArray.map fun (i, x) => (i, a.eval x))).run Try.prog w = .ok (.slice (some ⟨w.heap.size, 0, none⟩) n n) (w.alloc (.cells vs.toArray e)) := by
    unfold Instr.buildSlice
    rw [Sem.run_bind, run_underlying hT.1]
    simp only [Result.andThen_ok]
    rw [Sem.run_bind, r1]
    simp only [Result.andThen_ok]
    rw [if_neg (by omega), if_neg (by omega)]
    simp only [Sem.run_bind, r2, Result.andThen_ok, Sem.run_pure]
    rw [hf]
    simp [newRow, go_sem]
  unfold Oper.wp execOp
  simp only [Sem.run_bind, hrun, Result.andThen_ok, Sem.run_pure]
  exact hK _ _ (h _ _ (H.alloc _ _))
theorem rd_block {w : World} {b o : Nat} {xs : List Value} (R : Rd w (some ⟨b, o, none⟩) xs) {k n : Nat} (hn : k + n ≤ xs.length) (h0 : 0 < n) :
    ∃ cs t f, w.heap[b]? = some (.cells cs t f) ∧ o + k + n ≤ cs.size ∧ cs.extract (o + k) (o + k + n) = ((xs.drop k).take n).toArray := by
  have hc := R.get (i := k) (by omega)
  simp only [World.cell?, if_true] at hc
  cases hb : w.heap[b]? with
  | none => rw [hb] at hc; cases hc
  | some ob =>
    rw [hb] at hc
    cases ob <;> first | (cases hc; done) | skip
    rename_i cs t f
    have hget : ∀ i, i < xs.length → cs[o + i]? = xs[i]? := by
      intro i hi
      have h1 := R.get hi
      simp only [World.cell?, if_true, hb] at h1
      have h2 : cs[o + i]? = some xs[i] := by simpa using h1
      rw [h2]; simp [hi]
    have hlast := hget (k + n - 1) (by omega)
    have hsz : o + (k + n - 1) < cs.size := by
      rw [List.getElem?_eq_getElem (by omega)] at hlast
      exact (Array.getElem?_eq_some_iff.1 hlast).1
    refine ⟨cs, t, f, rfl, by omega, ?_⟩
    apply Array.ext_getElem?
    intro j
    rw [Array.getElem?_extract]
    by_cases hj : j < n
    · rw [if_pos (by omega), show o + k + j = o + (k + j) by omega, hget _ (by omega)]
      simp [List.getElem?_take, hj]
    · rw [if_neg (by omega)]
      simp [List.getElem?_take, hj]
theorem wpl_loadRdR {T n : Nat} {z : Array Value} {dst : Option Tmp} {ty : TypeId} {pos : String} {after : Array Edge} {guard : Option (Nat × Bool)} {x : Operand} {b off : Nat} (RT : RowTy T n z) (hw : Region.wanted ⟨dst, .load T x, ty, pos, after, guard⟩ (yielded ops a.tmps) = true) (hx : a.eval x = .pointer (some ⟨b, off, none⟩))
    {o k : Nat} {xs : List Value} {c1 : Array Value} (R : Rd w (some ⟨b, o, none⟩) xs) (hk : off = o + k) (hn : k + n ≤ xs.length) (h0 : 0 < n) (hv : ((xs.drop k).take n).toArray = c1) (h : wpList Try.prog ops Q rest (a.put dst (.agg c1)) w) : wpList Try.prog ops Q (⟨dst, .load T x, ty, pos, after, guard⟩ :: rest) a w := by
  subst hk
  obtain ⟨cs, t, f, hb, hs, he⟩ := rd_block R hn h0
  exact wpl_loadR RT hw hx hb hs (he.trans hv) h
end
end Go.Proofs.Ytgobnamhdkbbeaa

/- Slices of one's own over a memory of things: rows that grow by append. -/
namespace Go.Proofs.Ytgobnamhdkbbeaa
open Go.RowKit
set_option linter.unusedSimpArgs false
set_option linter.unusedVariables false
theorem slTy_mk {P : Program} {t e size bytes : Nat} {z : Value} (h1 : P.underlying t = some (.slice e)) (h2 : (P.info? e).map (fun i => (i.zero, i.size, i.bytes)) = some (some z, size, bytes))
    (h3 : z.cells.size = size) (h4 : 0 < size) : SlTy P t e size bytes z := by
  obtain ⟨j, hj, he⟩ := Option.map_eq_some_iff.1 h2
  simp only [Prod.mk.injEq] at he
  exact ⟨h1, ⟨j, hj, he.1, he.2.1, he.2.2⟩, h3, h4⟩
def OneCells (cs : List Value) : Prop := ∀ u ∈ cs, u.oneCell' = true
theorem ownsRow_mono {w : World} {b b' e size : Nat} {v : Value} {n : Nat} {xs : List Value} (h : w.ownsRow b e size v n xs) (hb : b' ≤ b) : w.ownsRow b' e size v n xs := by
  obtain ⟨h1, h2⟩ := h
  refine ⟨h1, ?_⟩
  rcases h2 with h2 | ⟨g, cap, cur, e, hg, r⟩
  · exact .inl h2
  · exact .inr ⟨g, cap, cur, e, by omega, r⟩
theorem ownsRow_fp {w : World} {b e size : Nat} {v : Value} {n : Nat} {xs : List Value} (h : w.ownsRow b e size v n xs) : ∀ k, v.ownBlock = some k → b ≤ k ∧ k < w.heap.size := by
  obtain ⟨h1, ⟨rfl, _⟩ | ⟨g, cap, cur, rfl, hg, hh, r⟩⟩ := h
  · intro k hk; cases hk
  · intro k hk
    obtain rfl : g = k := by simpa [Value.ownBlock] using hk
    exact ⟨hg, (Array.getElem?_eq_some_iff.1 hh).1⟩
/-- Behind a call that left all as it was and owns a new row. -/
theorem Heap.addRow {W w w' : World} {l : List Thing} {e size : Nat} {v : Value} {n : Nat} {xs : List Value} (H : Heap W l w) (hb : Below w.heap.size w w') (ho : w'.ownsRow w.heap.size e size v n xs) : Heap W (RowT e size v n xs :: l) w' :=
  H.add ⟨hb.os, hb.tape, hb.output, hb.size, fun k hk _ => hb.block k hk⟩ (ownsRow_mono ho (Nat.zero_le _)) (ownsRow_fp ho)
theorem Heap.celRd {W w : World} {l : List Thing} (H : Heap W l w) {p : Nat} {c : Array Value} {t : TypeId} (m : Cel p c t ∈ l) : Rd w (some ⟨p, 0, none⟩) c.toList := by
  intro i hi
  refine ⟨p, 0, rfl, ?_⟩
  rw [cell_of_row w p (0 + i) c t _ (H.blk m)]
  simp at hi
  simp [hi]
/-- A nil slice is a row of nothing. -/
theorem Heap.nilRow {W w : World} {l : List Thing} (e size : Nat) (H : Heap W l w) : Heap W (RowT e size (.slice none 0 0) 0 [] :: l) w :=
  H.add (World.grownBy.refl _ _) ⟨by simp, .inl ⟨rfl, rfl⟩⟩ (fun k hk => by cases hk)
section
variable {ops : Array Oper} {rest : List Oper} {o : Oper} {a : Act} {w W : World} {l : List Thing} {Q : Exit → Act → World → Prop}
/-- append(s, x...) to a row of one's own. -/
theorem wpl_appendH {t e size bytes : Nat} {z : Value} (T : SlTy Try.prog t e size bytes z) (hgd : o.guard = none) {s x : Operand}
    (ho : o.op = .call { callee := .builtin .append, args := #[s, x], argTypes := #[t, t] }) {v : Value} (hs : a.eval s = v) {b off m c : Nat} (hx : a.eval x = .slice (some ⟨b, off, none⟩) m c)
    {n : Nat} {xs news : List Value} (H : Heap W (RowT e size v n xs :: l) w) (hrd : Rd w (some ⟨b, off, none⟩) news) (hl : news.length = m * size) (h1 : OneCells news)
    (h63 : n + m ≤ maxLen) (hbytes : (n + m) * bytes ≤ 140737488355328)
    (h : ∀ v' w', Heap W (RowT e size v' (n + m) (xs ++ news) :: l) w' → wpList Try.prog ops Q rest (a.put o.dst v') w') : wpList Try.prog ops Q (o :: rest) a w := by
  refine wpl_appendB hgd s x t ho T 0 v n xs hs (H.ok _ List.mem_cons_self) b off m c news hx hl hrd h1 h63 hbytes (Nat.zero_le _) ?_
  intro v' w' hown hg hbl
  refine h v' w' (H.head hg hown ?_)
  rcases hbl with hbl | hbl
  · exact .inl hbl
  · refine .inr fun k hk => ?_
    have h2 := ownsRow_fp hown k hk
    have hk' : v'.ownBlock = some k := hk
    rw [hbl] at hk'
    cases hk'
    exact ⟨Nat.le_refl _, h2.2⟩
end
end Go.Proofs.Ytgobnamhdkbbeaa

/- Rows of one's own that begin anywhere in their block (a queue: s = s[1:], s = append(s, x)). -/
namespace Go.Proofs.Ytgobnamhdkbbeaa
open Go.RowKit
set_option linter.unusedSimpArgs false
set_option linter.unusedVariables false
/-- A row of a slice's value v, wherever in its block. -/
def OwnT (e size : Nat) (v : Value) (n : Nat) (xs : List Value) : Thing := ⟨v.ownBlock, fun w => Own w 0 e size v n xs, fun w w' h ho => ho.same h⟩
theorem RowT.own {w : World} {e size n : Nat} {v : Value} {xs : List Value} (h : (RowT e size v n xs).ok w) : (OwnT e size v n xs).ok w := Own.ofRow h
theorem Heap.slide {W w : World} {l : List Thing} {e size n : Nat} {v : Value} {xs : List Value} (H : Heap W (RowT e size v n xs :: l) w) : Heap W (OwnT e size v n xs :: l) w :=
  H.head (World.grownBy.refl _ _) (RowT.own (H.ok _ List.mem_cons_self)) (.inl rfl)
theorem Heap.ownRd {W w : World} {l : List Thing} {e size n c : Nat} {a : Option Addr} {xs : List Value} (H : Heap W l w) (m : OwnT e size (.slice a n c) n xs ∈ l) : Rd w a xs := by
  obtain ⟨ao, c', he, hr, _⟩ := Own.rd (H.ok _ m)
  simp only [Value.slice.injEq, true_and] at he
  obtain ⟨rfl, _⟩ := he
  exact hr
theorem OwnT.form {w : World} {e size n : Nat} {v : Value} {xs : List Value} (h : (OwnT e size v n xs).ok w) (hn : 0 < n) : ∃ g o c, v = .slice (some ⟨g, o, none⟩) n c ∧ n ≤ c ∧ c ≤ maxLen := by
  obtain ⟨_, ⟨_, rfl⟩ | ⟨g, off, cap, cur, rfl, _, _, h1, h2, _⟩⟩ := h
  · omega
  · exact ⟨g, off, cap, rfl, h1, h2⟩
/-- s[1:]. -/
theorem Own.tail {w : World} {base e size g off n c : Nat} {xs : List Value} (h : Own w base e size (.slice (some ⟨g, off, none⟩) n c) n xs) (hn : 1 ≤ n) :
    Own w base e size (.slice (cutA (some ⟨g, off, none⟩) c 1 size) (n - 1) (c - 1)) (n - 1) (xs.drop size) := by
  obtain ⟨hl, ⟨hv, _⟩ | ⟨g', off', cap, cur, hv, hb, hg, hnc, hcm, hs, ht⟩⟩ := h
  · cases hv
  · simp only [Value.slice.injEq, Option.some.injEq, Addr.mk.injEq, true_and] at hv
    obtain ⟨⟨rfl, rfl, _⟩, rfl⟩ := hv
    have hsz : n * size = size + (n - 1) * size := by
      obtain ⟨k, rfl⟩ : ∃ k, n = k + 1 := ⟨n - 1, by omega⟩
      rw [Nat.add_sub_cancel, Nat.add_mul]; omega
    refine ⟨by simp [hl]; omega, .inr ?_⟩
    by_cases hc : c = 1
    · subst hc
      obtain rfl : n = 1 := by omega
      refine ⟨g, off, 0, cur, by simp [cutA], hb, hg, by omega, by omega, by omega, ?_⟩
      simp only [Nat.sub_self, Nat.zero_mul, List.take_zero]
      rw [List.drop_of_length_le (by rw [hl]; omega)]
    · refine ⟨g, off + size, c - 1, cur, by simp [cutA, hc, addr_add], hb, hg, by omega, by omega, ?_, ?_⟩
      · have : c * size = size + (c - 1) * size := by
          obtain ⟨k, rfl⟩ : ∃ k, c = k + 1 := ⟨c - 1, by omega⟩
          rw [Nat.add_sub_cancel, Nat.add_mul]; omega
        omega
      · rw [← ht, hsz, List.drop_take, List.drop_drop, Nat.add_sub_cancel_left]
theorem Heap.ownTail {W w : World} {l : List Thing} {e size g off n c : Nat} {xs : List Value} (H : Heap W (OwnT e size (.slice (some ⟨g, off, none⟩) n c) n xs :: l) w) (hn : 1 ≤ n) :
    Heap W (OwnT e size (.slice (cutA (some ⟨g, off, none⟩) c 1 size) (n - 1) (c - 1)) (n - 1) (xs.drop size) :: l) w := by
  refine H.head (World.grownBy.refl _ _) (Own.tail (H.ok _ List.mem_cons_self) hn) (.inl ?_)
  unfold OwnT cutA
  simp only
  split
  · rfl
  · simp [Value.ownBlock, Addr.add]
    split <;> rfl
section
variable {P : Program}
theorem run_append_roomO (w : World) (t ty e : TypeId) (i : TypeInfo) (ht : P.underlying t = some (.slice e)) (hi : P.info? e = some i)
    (g off sLen sCap : Nat) (cur : Array Value) (hg : w.heap[g]? = some (.cells cur e (0, 0)))
    (a : Addr) (m c : Nat) (news : List Value) (hl : news.length = m * i.size) (hnews : ∀ j u, news[j]? = some u → w.cell? (a.add j) = some u) (h1 : ∀ u ∈ news, u.oneCell' = true)
    (hroom : sLen + m ≤ sCap) (hfit : off + sLen * i.size + news.length ≤ cur.size) :
    (Builtin.append_ #[t, t] ty #[.slice (some ⟨g, off, none⟩) sLen sCap, .slice (some a) m c]).run P w =
      .ok (.slice (some ⟨g, off, none⟩) (sLen + m) sCap) (w.setRow g (cur.toList.take (off + sLen * i.size) ++ news ++ cur.toList.drop (off + sLen * i.size + news.length)).toArray) := by
  have hf := run_firstCells_some (P := P) w i.size m a m c news hl hnews
  have hst := run_storeCells_at P g (off + sLen * i.size) e news 0 cur w hg (by simpa using hfit) h1
  simp only [Nat.add_zero] at hst
  have ha : (⟨g, off, none⟩ : Addr).add (sLen * i.size) = ⟨g, off + sLen * i.size, none⟩ := addr_add g off _
  simp [Builtin.append_, run_underlying ht, sizeOf, typeInfo, hi, Builtin.lenOf, hroom, hf, ha, hst]
end
section
variable {ops : Array Oper} {rest : List Oper} {o : Oper} {a : Act} {w W : World} {l : List Thing} {Q : Exit → Act → World → Prop}
/-- append(s, x...) to such a row. -/
theorem wpl_appendO {t e size bytes : Nat} {z : Value} (T : SlTy Try.prog t e size bytes z) (hgd : o.guard = none) {s x : Operand}
    (ho : o.op = .call { callee := .builtin .append, args := #[s, x], argTypes := #[t, t] }) {v : Value} (hs : a.eval s = v) {b off m c : Nat} (hx : a.eval x = .slice (some ⟨b, off, none⟩) m c)
    {n : Nat} {xs news : List Value} (H : Heap W (OwnT e size v n xs :: l) w) (hrd : Rd w (some ⟨b, off, none⟩) news) (hl : news.length = m * size) (h1 : OneCells news)
    (h63 : n + m ≤ maxLen) (hbytes : (n + m) * bytes ≤ 140737488355328)
    (h : ∀ v' w', Heap W (OwnT e size v' (n + m) (xs ++ news) :: l) w' → wpList Try.prog ops Q rest (a.put o.dst v') w') : wpList Try.prog ops Q (o :: rest) a w := by
  have hown := H.ok _ List.mem_cons_self
  obtain ⟨hxl, ⟨rfl, rfl⟩ | ⟨g, off', cap, cur, rfl, _, hg, hnc, hcm, hsz, htk⟩⟩ := hown
  · have hx0 : xs = [] := List.eq_nil_of_length_eq_zero (by simpa using hxl)
    subst hx0
    have H2 : Heap W (RowT e size (.slice none 0 0) 0 [] :: l) w := H.tail.nilRow e size
    exact wpl_appendH T hgd ho hs hx H2 hrd hl h1 h63 hbytes fun v' w' H' => h v' w' H'.slide
  · by_cases hroom : n + m ≤ cap
    · obtain ⟨i, hi, hz, hsi, hbi⟩ := T.inf
      subst hsi
      have hms : (n + m) * i.size ≤ cap * i.size := Nat.mul_le_mul_right _ hroom
      rw [Nat.add_mul] at hms
      have hfit : off' + n * i.size + news.length ≤ cur.size := by omega
      have hr := run_append_roomO (P := Try.prog) w t o.type e i T.und hi g off' n cap cur hg ⟨b, off, none⟩ m c news hl hrd.addr h1 hroom hfit
      refine wpList_plain hgd fun K hK => ?_
      unfold Oper.wp execOp
      simp only [ho, resolve, invoke, builtin, Sem.run_bind, Sem.run_pure, Result.andThen_ok, List.map_toArray, List.map_cons, List.map_nil, hs, hx, hr]
      have hxs : xs.length = n * i.size := hxl
      refine hK _ _ (h _ _ (H.head ⟨rfl, rfl, rfl, by simp, fun k _ hk => setRow_other w g k _ (fun e => hk (by show some k = some g; rw [e]))⟩ ⟨by rw [List.length_append, hxs, hl, Nat.add_mul], .inr ⟨g, off', cap, _, rfl, Nat.zero_le _, setRow_heap w g cur _ e _ hg, hroom, hcm, ?_, ?_⟩⟩ (.inl rfl)))
      · simp only [List.size_toArray, List.length_append, List.length_take, List.length_drop, Array.length_toList]
        omega
      · have hA : (cur.toList.take (off' + n * i.size)).length = off' + n * i.size := by simp; omega
        simp only [List.append_assoc]
        rw [List.drop_append_of_le_length (by rw [hA]; omega), List.drop_take, Nat.add_sub_cancel_left, htk, ← List.append_assoc, show (n + m) * i.size = (xs ++ news).length by rw [List.length_append, hxs, hl, Nat.add_mul]]
        exact List.take_left
    · obtain ⟨i, hi, hz, hsi, hbi⟩ := T.inf
      subst hsi
      subst hbi
      have hown' : Own w 0 e i.size (.slice (some ⟨g, off', none⟩) n cap) n xs := ⟨hxl, .inr ⟨g, off', cap, cur, rfl, Nat.zero_le _, hg, hnc, hcm, hsz, htk⟩⟩
      have hrd0 : Rd w (some ⟨g, off', none⟩) xs := by
        obtain ⟨ao, c', he, hr, _⟩ := Own.rd hown'
        simp only [Value.slice.injEq, true_and] at he
        obtain ⟨rfl, _⟩ := he
        exact hr
      have hr := run_append_grow (P := Try.prog) w t o.type e i z T.und hi hz ⟨g, off', none⟩ n cap xs hxl hrd0.addr ⟨b, off, none⟩ m c news hl hrd.addr (by omega) (by unfold maxLen at h63; omega) (growslice_fits (by omega) hbytes)
      have hge := grownCap_ge w (n + m) cap e
      have hcm2 : grownCap w (n + m) cap e ≤ maxLen := grownCap_le_maxLen w (n + m) cap e h63
      refine wpList_plain hgd fun K hK => ?_
      unfold Oper.wp execOp
      simp only [ho, resolve, invoke, builtin, Sem.run_bind, Sem.run_pure, Result.andThen_ok, List.map_toArray, List.map_cons, List.map_nil, hs, hx, hr]
      refine hK _ _ (h _ _ (H.head ⟨rfl, rfl, rfl, by simp, fun k hk _ => Below.heap_alloc w.drew _ k hk⟩ ⟨by rw [List.length_append, hxl, hl, Nat.add_mul], .inr ⟨w.heap.size, 0, _, _, rfl, Nat.zero_le _, heap_alloc_new w.drew _, hge, hcm2, ?_, ?_⟩⟩ (.inr fun k hk => ?_)))
      · simp only [Array.size_append, List.size_toArray, size_zeroCells, T.zc, hxl, hl, ← Nat.add_mul]
        rw [Nat.zero_add]
        have : n + m + (grownCap w (n + m) cap e - (n + m)) = grownCap w (n + m) cap e := by omega
        rw [this]
        exact Nat.le_refl _
      · simp only [Array.toList_append, List.append_assoc, List.drop_zero]
        rw [← List.append_assoc, show (n + m) * i.size = (xs ++ news).length by rw [List.length_append, hxl, hl, Nat.add_mul]]
        exact List.take_left
      · have hk' : some w.heap.size = some k := hk
        cases hk'
        exact ⟨Nat.le_refl _, by simp⟩
theorem wpl_loadCell {T : TypeId} {dst : Option Tmp} {ty : TypeId} {pos : String} {after : Array Edge} {guard : Option (Nat × Bool)} {x : Operand} {b off : Nat} (CT : CellTy T) (hw : Region.wanted ⟨dst, .load T x, ty, pos, after, guard⟩ (yielded ops a.tmps) = true) (hx : a.eval x = .pointer (some ⟨b, off, none⟩))
    {v : Value} (hc : w.cell? ⟨b, off, none⟩ = some v) (h : wpList Try.prog ops Q rest (a.put dst v) w) : wpList Try.prog ops Q (⟨dst, .load T x, ty, pos, after, guard⟩ :: rest) a w := by
  simp only [World.cell?, if_true] at hc
  cases hb : w.heap[b]? with
  | none => rw [hb] at hc; cases hc
  | some o =>
    rw [hb] at hc
    cases o <;> first | (cases hc; done) | skip
    rename_i cs t f
    exact wpl_loadC CT hw hx hb hc h
theorem wpl_cut1 {t e size bytes : Nat} {z : Value} (T : SlTy Try.prog t e size bytes z) {dst : Option Tmp} {ty : TypeId} {pos : String} {after : Array Edge} {guard : Option (Nat × Bool)} {x : Operand} (hw : Region.wanted ⟨dst, .slice t x (some (.const (.int .i64 1))) none none, ty, pos, after, guard⟩ (yielded ops a.tmps) = true)
    {ao : Option Addr} {n c : Nat} (hx : a.eval x = .slice ao n c) (hn : 1 ≤ n) (h : wpList Try.prog ops Q rest (a.put dst (.slice (cutA ao c 1 size) (n - 1) (c - 1))) w) : wpList Try.prog ops Q (⟨dst, .slice t x (some (.const (.int .i64 1))) none none, ty, pos, after, guard⟩ :: rest) a w := by
  refine wpl_pure hw _ (fun w => ?_) h
  have hr : (Instr.slice t (.slice ao n c) (some (.int .i64 1)) none none).run Try.prog w = .ok (.slice (cutA ao c 1 size) (n - 1) (c - 1)) w := run_cutFrom (P := Try.prog) T ao n c 1 .i64 hn w
  have hs : (Instr.sliceAt t (.slice ao n c) (some (.int .i64 1)) none none).run Try.prog w = .ok (.slice (cutA ao c 1 size) (n - 1) (c - 1)) w := by
    unfold Instr.sliceAt
    rw [Sem.run_bind, run_underlying T.und]
    simp only [Result.andThen_ok]
    exact hr
  have e : (some (Operand.const (.int .i64 1))).map a.eval = some (.int .i64 1) := rfl
  unfold execOp
  simp only [hx, e, Option.map_none, Sem.run_bind, hs, Result.andThen_ok, Sem.run_pure]
/-- A block as a row that is full. -/
theorem Heap.celOwn {W w : World} {l : List Thing} {g e size n : Nat} {c : Array Value} (H : Heap W (Cel g c e :: l) w) (hc : c.size = n * size) (hn : n ≤ maxLen) : Heap W (OwnT e size (.slice (some ⟨g, 0, none⟩) n n) n c.toList :: l) w :=
  H.head (World.grownBy.refl _ _) ⟨by simpa using hc, .inr ⟨g, 0, n, c, rfl, Nat.zero_le _, H.blk List.mem_cons_self, Nat.le_refl _, hn, by omega, by rw [List.drop_zero, List.take_of_length_le (by simp [hc])]⟩⟩ (.inl rfl)
/-- The head of a block as a row. -/
theorem Heap.celOwnP {W w : World} {l : List Thing} {g e size n m : Nat} {c : Array Value} (H : Heap W (Cel g c e :: l) w) (hc : m * size ≤ c.size) (hn : n ≤ m) (hm : m ≤ maxLen) : Heap W (OwnT e size (.slice (some ⟨g, 0, none⟩) n m) n (c.toList.take (n * size)) :: l) w := by
  have h2 : n * size ≤ m * size := Nat.mul_le_mul_right _ hn
  exact H.head (World.grownBy.refl _ _) ⟨by simp; omega, .inr ⟨g, 0, m, c, rfl, Nat.zero_le _, H.blk List.mem_cons_self, hn, hm, by omega, by rw [List.drop_zero]⟩⟩ (.inl rfl)
/-- make([]T, n, m). -/
theorem wpl_makeC {t e size bytes : Nat} {z : Value} (T : SlTy Try.prog t e size bytes z) {dst : Option Tmp} {ty : TypeId} {pos : String} {after : Array Edge} {guard : Option (Nat × Bool)} {x y : Operand} (hw : Region.wanted ⟨dst, .makeSlice t x y, ty, pos, after, guard⟩ (yielded ops a.tmps) = true)
    {kl kc : IntKind} {L C : Int} (n m : Nat) (hx : a.eval x = .int kl L) (hy : a.eval y = .int kc C) (hL : L = (n : Int)) (hC : C = (m : Int)) (hnm : n ≤ m) (hm : m ≤ 65536) (hb : bytes * m ≤ 281474976710656)
    (H : Heap W l w) (h : ∀ p w', Heap W (Cel p (madeCells z.cells (m * size)) e :: l) w' → wpList Try.prog ops Q rest (a.put dst (.slice (some ⟨p, 0, none⟩) n m)) w') : wpList Try.prog ops Q (⟨dst, .makeSlice t x y, ty, pos, after, guard⟩ :: rest) a w := by
  subst hL hC
  obtain ⟨i, hi, hz, hsi, hbi⟩ := T.inf
  subst hsi hbi
  have hb2 : (i.bytes : Int) * (m : Int) ≤ 281474976710656 := by rw [← Int.natCast_mul]; omega
  have hr := run_make (P := Try.prog) w t e i z T.und hi hz kl kc (n : Int) (m : Int) (by omega) (by omega) hb2 (by omega)
  simp only [Int.toNat_natCast] at hr
  refine BigFrame.wpList_want hw fun K hK => ?_
  unfold Oper.wp execOp
  simp only [hx, hy, Sem.run_bind, hr, Result.andThen_ok, Sem.run_pure]
  exact hK _ _ (h _ _ (H.alloc _ _))
end
end Go.Proofs.Ytgobnamhdkbbeaa

/- Worlds that are others grown: some draws on, some blocks behind. cmp.Compare, cmp.Or. -/
namespace Go.Proofs.Ytgobnamhdkbbeaa
open Go.RowKit Go.Sort
set_option linter.unusedSimpArgs false
set_option linter.unusedVariables false
def Grw (w w' : World) : Prop := ∃ q os, w' = grow (w.drewN q) os
theorem Grw.refl (w : World) : Grw w w := ⟨0, #[], by rw [grow_empty]; rfl⟩
theorem Grw.trans {a b c : World} (h : Grw a b) (k : Grw b c) : Grw a c := by
  obtain ⟨q, os, rfl⟩ := h
  obtain ⟨q', os', rfl⟩ := k
  exact ⟨q + q', os ++ os', by rw [show (grow (a.drewN q) os).drewN q' = grow ((a.drewN q).drewN q') os from rfl, grow_grow]; simp [World.drewN, grow, Nat.add_assoc]⟩
theorem Grw.alloc {a b : World} (h : Grw a b) (o : Obj) : Grw a (b.alloc o) := h.trans ⟨0, #[o], by rw [alloc_eq_grow]; rfl⟩
theorem Grw.drew {a b : World} (h : Grw a b) : Grw a b.drew := h.trans ⟨1, #[], by rw [grow_empty]; rfl⟩
theorem Grw.old {a b : World} (h : Grw a b) {k : Nat} (hk : k < a.heap.size) : b.heap[k]? = a.heap[k]? := by
  obtain ⟨q, os, rfl⟩ := h
  exact heap_grow_old _ _ hk
theorem Grw.size {a b : World} (h : Grw a b) : a.heap.size ≤ b.heap.size := by
  obtain ⟨q, os, rfl⟩ := h
  simp [grow, World.drewN]
theorem Grw.blk {a b : World} (h : Grw a b) {p : Nat} {o : Obj} (hb : blk a p = some o) : blk b p = some o := (h.old (Array.getElem?_eq_some_iff.1 hb).1).trans hb
theorem Grw.below {a b : World} (h : Grw a b) : Below a.heap.size a b := by
  obtain ⟨q, os, rfl⟩ := h
  exact ⟨rfl, rfl, rfl, by simp [grow, World.drewN], fun k hk => heap_grow_old _ _ hk⟩
open Classical in
noncomputable def World.gr (w d : World) : World := if Grw w d then d else w
theorem gr_grw (w d : World) : Grw w (World.gr w d) := by
  unfold World.gr
  split
  · assumption
  · exact .refl _
theorem gr_of {w w' : World} (h : Grw w w') : ∃ d, w' = World.gr w d := ⟨w', by unfold World.gr; rw [if_pos h]⟩
/-- Called so it answers v, in whatever world, which is then some draws on, with blocks behind. -/
def AnsG (f : FuncId) (args : Array Value) (v : Value) : Prop := ∀ w, Calls Try.prog f args w fun e w' => e = .returned v ∧ Grw w w'
theorem AnsG.quiet {f : FuncId} {args : Array Value} {v : Value} {W d : World} (h : AnsG f args v) : Calls Try.prog f args (World.gr W d) fun e w'' => e = .returned v ∧ ∃ m, w'' = World.gr W m :=
  (h _).mono fun _ _ ⟨he, hg⟩ => ⟨he, gr_of ((gr_grw W d).trans hg)⟩
theorem AnsG.ans {f : FuncId} {args : Array Value} {v : Value} (h : AnsG f args v) : Ans f args v := fun w => (h w).mono fun _ _ ⟨he, hg⟩ => ⟨he, hg.below⟩
section
variable {ops : Array Oper} {rest : List Oper} {a : Act} {w W : World} {Q : Exit → Act → World → Prop}
theorem wp_region_G_tail {id : Nat} {lo : List Oper} (n : Nat) (hm : Try.prog.follows .mixedOrders = true) (hB : Region.lexTailB .any lo.toArray n = true)
    (h : wpQuiet Try.prog lo.toArray (fun w' => ∃ d, w' = World.gr W d) (fun a' => ∀ w', Grw W w' → wpList Try.prog lo.toArray Q (lo.drop n) a' w') (lo.take n) a) : (Code.region id lo.toArray true).wp Try.prog Q a W :=
  wp_region_tail (C := fun w' => ∃ d, w' = World.gr W d) n hm hB (gr_of (Grw.refl W).drew) (wpQuiet_mono (fun _ h w' hw' => by obtain ⟨d, rfl⟩ := hw'; exact h _ (gr_grw _ _)) _ _ h)
theorem wp_region_G {id : Nat} {lo : List Oper} (hm : Try.prog.follows .mixedOrders = true) (hB : Region.lexB .any lo.toArray = true)
    (h : wpQuiet Try.prog lo.toArray (fun w' => ∃ d, w' = World.gr W d) (fun a' => ∀ w', Grw W w' → Q .normal a' w') lo a) : (Code.region id lo.toArray true).wp Try.prog Q a W :=
  wp_region_quiet (C := fun w' => ∃ d, w' = World.gr W d) hm hB (gr_of (Grw.refl W).drew) (wpQuiet_mono (fun _ h w' hw' => by obtain ⟨d, rfl⟩ := hw'; exact h _ (gr_grw _ _)) _ _ (by simpa using h))
theorem wpQ_loadCG {T : TypeId} {dst : Option Tmp} {ty : TypeId} {pos : String} {after : Array Edge} {guard : Option (Nat × Bool)} {x : Operand} {b off : Nat} {K : Act → Prop} (CT : CellTy T) (hw : Region.wanted ⟨dst, .load T x, ty, pos, after, guard⟩ (yielded ops a.tmps) = true) (hx : a.eval x = .pointer (some ⟨b, off, none⟩))
    {c : Array Value} {v : Value} {t : TypeId} (hb : blk W b = some (.cells c t (0, 0))) (hv : c[off]? = some v)
    (h : wpQuiet Try.prog ops (fun w' => ∃ d, w' = World.gr W d) K rest (a.put dst v)) : wpQuiet Try.prog ops (fun w' => ∃ d, w' = World.gr W d) K (⟨dst, .load T x, ty, pos, after, guard⟩ :: rest) a := by
  refine BigFrame.wpQuiet_want hw fun K hK => ⟨_, ?_, hK _ h⟩
  rintro _ ⟨d, rfl⟩
  unfold Oper.quietAt execOp
  simp only [hx, Sem.run_bind, run_loadC CT ((gr_grw W d).blk hb) hv]
  exact ⟨rfl, rfl⟩
theorem wpQ_loadRG {T n : Nat} {z : Array Value} {dst : Option Tmp} {ty : TypeId} {pos : String} {after : Array Edge} {guard : Option (Nat × Bool)} {x : Operand} {b off : Nat} {K : Act → Prop} (RT : RowTy T n z) (hw : Region.wanted ⟨dst, .load T x, ty, pos, after, guard⟩ (yielded ops a.tmps) = true) (hx : a.eval x = .pointer (some ⟨b, off, none⟩))
    {c c1 : Array Value} {t : TypeId} (hb : blk W b = some (.cells c t (0, 0))) (hn : off + n ≤ c.size) (he : c.extract off (off + n) = c1)
    (h : wpQuiet Try.prog ops (fun w' => ∃ d, w' = World.gr W d) K rest (a.put dst (.agg c1))) : wpQuiet Try.prog ops (fun w' => ∃ d, w' = World.gr W d) K (⟨dst, .load T x, ty, pos, after, guard⟩ :: rest) a := by
  subst he
  refine BigFrame.wpQuiet_want hw fun K hK => ⟨_, ?_, hK _ h⟩
  rintro _ ⟨d, rfl⟩
  unfold Oper.quietAt execOp
  simp only [hx, Sem.run_bind, run_loadR RT ((gr_grw W d).blk hb) hn]
  exact ⟨rfl, rfl⟩
end
/-- The first that is not 0. -/
def orL : List Int → Int
  | [] => 0
  | x :: xs => if x ≠ 0 then x else orL xs
set_option maxRecDepth 100000
set_option maxHeartbeats 1000000
theorem or_C (b n c : Nat) (xs : List Int) (hl : xs.length = n) (hn : n ≤ 1000) (w : World) (R : Rd w (some ⟨b, 0, none⟩) (xs.map (Value.int .i64))) :
    Calls Try.prog 84 #[.slice (some ⟨b, 0, none⟩) n c] w fun e w' => e = .returned (.int .i64 (orL xs)) ∧ w' = w := by
  have HL := Lib.hid hl
  have HR := Lib.hid R
  clear R hl
  go_enter Try.func84, Try.ntmps84
  go_wp2_with (go_skip)
  have hstart : orL xs = orL (xs.drop 0) := rfl
  go_loopw [8] (fun i wr => ∃ k : Nat, k ≤ n ∧ i = .int .i64 k ∧ orL xs = orL (xs.drop k) ∧ wr = w) (fun i _ => n - (intOf i).toNat)
  case atStart => exact ⟨0, Nat.zero_le _, rfl, hstart, rfl⟩
  case round =>
    obtain ⟨k, hk, rfl, hO, rfl⟩ := hrel
    clear hstart
    by_cases hlt : k < n
    · have hkx : k < xs.length := by rw [HL.out]; exact hlt
      have hc : wr.cell? ⟨b, k, none⟩ = some (.int .i64 xs[k]) := by
        have := HR.out.get (i := k) (by simpa using hkx)
        simpa using this
      rw [List.drop_eq_getElem_cons hkx] at hO
      generalize xs[k] = x at *
      by_cases h0 : x = 0
      · subst h0
        have HO := Lib.hid (show orL xs = orL (xs.drop (k + 1)) from hO.trans (by rw [orL, if_neg (fun h => h rfl)]))
        clear hO
        go_wp2_with (go_skip)
        refine ⟨⟨k + 1, by omega, by go_num, HO.out, by trivial⟩, ?measure⟩
        case measure => simp [intOf]; omega
      · have HO := Lib.hid (show orL xs = x from hO.trans (by rw [orL, if_pos h0]))
        clear hO
        have e0 : (x != 0) = true := by simpa using h0
        go_wp2_with (go_skip)
        go_ret
        exact ⟨by rw [HO.out]; rfl, rfl⟩
    · obtain rfl : k = n := by omega
      rw [List.drop_of_length_le (by rw [HL.out]; omega)] at hO
      have HO := Lib.hid (show orL xs = 0 from hO)
      clear hO
      go_wp2_with (go_skip)
      go_ret
      exact ⟨by rw [HO.out]; rfl, rfl⟩
end Go.Proofs.Ytgobnamhdkbbeaa

/- cmp.Compare of parties. -/
namespace Go.Proofs.Ytgobnamhdkbbeaa
open Go.RowKit Go.Sort
set_option linter.unusedSimpArgs false
set_option linter.unusedVariables false
set_option maxRecDepth 100000
set_option maxHeartbeats 1000000
theorem nanP_ans (x : Int) (w : World) : Calls Try.prog 112 #[.int .u8 x] w fun e w' => e = .returned (.bool false) ∧ w' = w := by
  go_enter Try.func112, Try.ntmps112
  go_wp2_with (go_skip)
  go_ret
  exact ⟨by simp, rfl⟩
theorem cmpP_ans (x y : Int) (w : World) : Calls Try.prog 85 #[.int .u8 x, .int .u8 y] w fun e w' => e = .returned (.int .i64 (Lib.compareInt x y)) ∧ w' = w := by
  have c1 := nanP_ans x
  have c2 := nanP_ans y
  have key : (x < y ∧ Lib.compareInt x y = -1) ∨ (¬ x < y ∧ y < x ∧ Lib.compareInt x y = 1) ∨ (¬ x < y ∧ ¬ y < x ∧ Lib.compareInt x y = 0) := by
    unfold Lib.compareInt
    by_cases h : x < y
    · exact .inl ⟨h, by rw [if_pos h]⟩
    · by_cases h2 : y < x
      · exact .inr (.inl ⟨h, h2, by rw [if_neg h, if_pos h2]⟩)
      · exact .inr (.inr ⟨h, h2, by rw [if_neg h, if_neg h2]⟩)
  rcases key with ⟨h, e⟩ | ⟨h, h2, e⟩ | ⟨h, h2, e⟩
  all_goals
    rw [e]
    clear e
    go_enter Try.func85, Try.ntmps85
    go_wp2_with (first | go_skip | ((refine (c1 _).mono ?_); rintro e w' ⟨rfl, rfl⟩) | ((refine (c2 _).mono ?_); rintro e w' ⟨rfl, rfl⟩))
    go_ret
    exact ⟨rfl, rfl⟩
theorem AnsG.same {f : FuncId} {args : Array Value} {v : Value} (h : ∀ w, Calls Try.prog f args w fun e w' => e = .returned v ∧ w' = w) : AnsG f args v := fun w => (h w).mono fun _ _ ⟨he, hw⟩ => ⟨he, hw ▸ Grw.refl _⟩
end Go.Proofs.Ytgobnamhdkbbeaa

/- A region that draws its order, over a memory of things: operations that only read, or call what leaves the things so; and loud ones (a make, a store) that stand in one order. One walk in the order of the text serves every order. -/
namespace Go.Proofs.Ytgobnamhdkbbeaa
open Go.RowKit
set_option linter.unusedVariables false

section
variable {P : Program} {ops : Array Oper} {md : Region.Mode} {W : World} {G : List Thing → Prop}
/-- In whatever memory of such things the operation yields v, and leaves the things so. -/
def YieldsG (P : Program) (ops : Array Oper) (W : World) (G : List Thing → Prop) (o : Oper) (v : Value) (a : Act) : Prop := ∀ l, G l → ∀ (w : World) (H : Heap W l w), YieldsIn P ops (fun w' => ∃ d, w' = H.any d) o v a
theorem YieldsG.of_same {o : Oper} {v : Value} {a a' : Act} (hy : YieldsG P ops W G o v a) (he : execOp a'.eval o = execOp a.eval o)
    (hw : Region.wanted o (yielded ops a'.tmps) = Region.wanted o (yielded ops a.tmps)) : YieldsG P ops W G o v a' := fun l hl w H => (hy l hl w H).of_same he hw
/-- The operation makes other things of the things. -/
def LoudG (P : Program) (ops : Array Oper) (W : World) (o : Oper) (l : List Thing) (a : Act) (k : List Thing → Value → Prop) : Prop :=
  Region.wanted o (yielded ops a.tmps) = true ∧ ∀ w, Heap W l w → ∃ l' u w', ((execOp a.eval o).run P w = .ok (.value u) w' ∨ ((execOp a.eval o).run P w = .ok .skip w' ∧ u = undef)) ∧ Heap W l' w' ∧ k l' u
theorem LoudG.mono {o : Oper} {l : List Thing} {a : Act} {k k' : List Thing → Value → Prop} (h : LoudG P ops W o l a k) (hk : ∀ l' u, k l' u → k' l' u) : LoudG P ops W o l a k' :=
  ⟨h.1, fun w H => let ⟨l', u, w', h1, h2, h3⟩ := h.2 w H; ⟨l', u, w', h1, h2, hk _ _ h3⟩⟩
theorem LoudG.of_same {o : Oper} {l : List Thing} {a a' : Act} {k : List Thing → Value → Prop} (h : LoudG P ops W o l a k) (he : execOp a'.eval o = execOp a.eval o)
    (hw : Region.wanted o (yielded ops a'.tmps) = Region.wanted o (yielded ops a.tmps)) : LoudG P ops W o l a' k := ⟨by rw [hw]; exact h.1, fun w H => by rw [he]; exact h.2 w H⟩
def WholeG (P : Program) (md : Region.Mode) (ops : Array Oper) (W : World) (G : List Thing → Prop) (K : List Thing → Act → Prop) : Nat → List Thing → Array Bool → Act → Prop
  | 0, l, listed, a => Region.ready md ops listed = [] ∧ K l a
  | f + 1, l, listed, a => Region.ready md ops listed ≠ [] ∧ ∀ i ∈ Region.ready md ops listed, ∃ o, ops[i]? = some o ∧
      ((∃ v, YieldsG P ops W G o v a ∧ WholeG P md ops W G K f l (listed.setIfInBounds i true) (a.put o.dst v)) ∨
       LoudG P ops W o l a fun l' u => G l' ∧ WholeG P md ops W G K f l' (listed.setIfInBounds i true) (a.put o.dst u))
theorem WholeG.any {K : List Thing → Act → Prop} {Q : Exit → Act → World → Prop} (hK : ∀ l a w, Heap W l w → K l a → Q .normal a w) :
    ∀ (f : Nat) (l : List Thing) (listed : Array Bool) (a : Act) (w : World), G l → Heap W l w → WholeG P md ops W G K f l listed a → wpAny P md ops Q f listed a w := by
  intro f
  induction f with
  | zero => intro l listed a w _ H h; exact ⟨h.1, hK _ _ _ H h.2⟩
  | succ f ih =>
    intro l listed a w hG H h
    refine ⟨fun h0 => absurd h0 h.1, fun i hi => ?_⟩
    obtain ⟨o, ho, h⟩ := h.2 i hi
    rcases h with ⟨v, hy, h⟩ | h
    · refine wpOp_of_qOp (C := fun w' => ∃ d, w' = H.any d) (H.any_of H) (fun a' w' hw' ha' => ?_) ((hy l hG w H).qOp ho (K := fun a' => a' = a.put o.dst v) rfl)
      obtain ⟨d, rfl⟩ := hw'
      subst ha'
      exact ih _ _ _ _ hG (H.any_heap d) h
    · obtain ⟨l', u, w', hr, H', hG', hk⟩ := h.2 w H
      unfold wpOp
      simp only [ho]
      rw [if_pos h.1]
      refine .inl ?_
      unfold Oper.wp
      rcases hr with hr | ⟨hr, rfl⟩ <;> rw [hr] <;> exact ih _ _ _ _ hG' H' hk
theorem WholeG.first {i : Nat} {oi : Oper} {v : Value} {K : List Thing → Act → Prop} (hi : ops[i]? = some oi) (hsel : ∀ (j : Nat) (o : Oper) cs b, ops[j]? = some o → o.op ≠ .select cs b) :
    ∀ (f : Nat) (l : List Thing) (listed : Array Bool) (a : Act),
      (∀ j oj, ops[j]? = some oj → j ≠ i → listed.getD j true = false → (∀ e ∈ oj.after, Region.binds md e = true → e.on ≠ i) → oi.apart ops oj = true) →
      i ∈ Region.ready md ops listed → YieldsG P ops W G oi v a → WholeG P md ops W G K f l (listed.setIfInBounds i true) (a.put oi.dst v) → WholeG P md ops W G K (f + 1) l listed a := by
  intro f
  induction f with
  | zero =>
    intro l listed a _ hr hy H
    refine ⟨fun h => by rw [h] at hr; simp at hr, fun j hj => ?_⟩
    by_cases e : j = i
    · subst e; exact ⟨oi, hi, .inl ⟨v, hy, H⟩⟩
    · have := ready_mono hj e
      rw [H.1] at this; cases this
  | succ f ih =>
    intro l listed a hfree hr hy H
    have hun := (mem_ready.1 hr).1
    refine ⟨fun h => by rw [h] at hr; simp at hr, fun j hj => ?_⟩
    by_cases e : j = i
    · subst e; exact ⟨oi, hi, .inl ⟨v, hy, H⟩⟩
    · obtain ⟨hjun, oj, hoj, hall⟩ := mem_ready.1 hj
      have hnot : ∀ e ∈ oj.after, Region.binds md e = true → e.on ≠ i := fun e he hb heq => by
        have := hall e he hb
        rw [heq, getD_both hun] at this
        cases this
      obtain ⟨h1, h2, h3⟩ := Oper.apart_spec (hfree j oj hoj e hjun hnot)
      have hsi := fun cs b => hsel i oi cs b hi
      have hsj := fun cs b => hsel j oj cs b hoj
      have keep : ∀ u, YieldsG P ops W G oi v (a.put oj.dst u) := fun u => hy.of_same (execOp_put oi hsi a oj.dst u h3) (wanted_put oi a oj.dst u h3)
      have hfree' : ∀ k ok, ops[k]? = some ok → k ≠ i → (listed.setIfInBounds j true).getD k true = false →
          (∀ e ∈ ok.after, Region.binds md e = true → e.on ≠ i) → oi.apart ops ok = true := fun k ok hk hki hun hno => by
        refine hfree k ok hk hki ?_ hno
        by_cases hjk : j = k
        · subst hjk; exact hjun
        · rw [getD_set_ne true hjk] at hun; exact hun
      obtain ⟨o', ho', h⟩ := H.2 j (ready_mono hj e)
      obtain rfl : o' = oj := Option.some.inj (ho'.symm.trans hoj)
      refine ⟨o', hoj, ?_⟩
      rcases h with ⟨u, hu, h⟩ | h
      · refine .inl ⟨u, hu.of_same (execOp_put o' hsj a oi.dst v h1).symm (wanted_put o' a oi.dst v h1).symm, ih _ _ _ hfree' (ready_mono hr (Ne.symm e)) (keep _) ?_⟩
        rw [Array.setIfInBounds_comm _ _ e, ← Act.put_comm a v _ h2]
        exact h
      · refine .inr ((h.of_same (execOp_put o' hsj a oi.dst v h1).symm (wanted_put o' a oi.dst v h1).symm).mono fun l' u ⟨hg, h⟩ => ⟨hg, ih _ _ _ hfree' (ready_mono hr (Ne.symm e)) (keep _) ?_⟩)
        rw [Array.setIfInBounds_comm _ _ e, ← Act.put_comm a v _ h2]
        exact h
/-- Is the order of the text one that serves: each quiet operation may come first, each loud one must? -/
def Region.lexW (md : Region.Mode) (ops : Array Oper) (loud : List Nat) : Nat → Nat → Array Bool → Bool
  | 0, _, listed => (Region.ready md ops listed).isEmpty
  | f + 1, k, listed => (if loud.contains k then Region.ready md ops listed == [k] else (Region.ready md ops listed).contains k && Region.free md ops listed k) && Region.lexW md ops loud f (k + 1) (listed.setIfInBounds k true)
def Region.lexWB (ops : Array Oper) (loud : List Nat) : Bool := Region.noSelect ops && Region.lexW .any ops loud ops.size 0 (Array.replicate ops.size false)
/-- The walk in the order of the text. -/
def wpW (P : Program) (ops : Array Oper) (W : World) (G : List Thing → Prop) (loud : List Nat) (K : List Thing → Act → Prop) : List Oper → Nat → List Thing → Act → Prop
  | [], _, l, a => K l a
  | o :: rest, k, l, a => if loud.contains k then LoudG P ops W o l a fun l' u => G l' ∧ wpW P ops W G loud K rest (k + 1) l' (a.put o.dst u)
      else ∃ v, YieldsG P ops W G o v a ∧ wpW P ops W G loud K rest (k + 1) l (a.put o.dst v)
theorem WholeG.lex {loud : List Nat} {K : List Thing → Act → Prop} (hsel : Region.noSelect ops = true) :
    ∀ (rest : List Oper) (k : Nat) (l : List Thing) (listed : Array Bool) (a : Act), (∀ j, j < rest.length → rest[j]? = ops[k + j]?) → Region.lexW md ops loud rest.length k listed = true → wpW P ops W G loud K rest k l a → WholeG P md ops W G K rest.length l listed a := by
  intro rest
  induction rest with
  | nil => intro k l listed a _ hB h; exact ⟨by simpa [Region.lexW] using hB, h⟩
  | cons o rest ih =>
    intro k l listed a hl hB h
    have h0 : ops[k]? = some o := by simpa using (hl 0 (by simp)).symm
    have hl' : ∀ j, j < rest.length → rest[j]? = ops[k + 1 + j]? := fun j hj => by have := hl (j + 1) (by simp; omega); simpa [Nat.add_assoc, Nat.add_comm 1 j] using this
    rw [List.length_cons, Region.lexW] at hB
    simp only [Bool.and_eq_true] at hB
    obtain ⟨hB, hB'⟩ := hB
    unfold wpW at h
    by_cases hk : loud.contains k = true
    · rw [if_pos hk] at h hB
      have hr : Region.ready md ops listed = [k] := by simpa using hB
      refine ⟨by rw [hr]; simp, fun i hi => ?_⟩
      rw [hr] at hi
      obtain rfl : i = k := by simpa using hi
      exact ⟨o, h0, .inr (h.mono fun l' u ⟨hg, h⟩ => ⟨hg, ih _ _ _ _ hl' hB' h⟩)⟩
    · rw [if_neg hk] at h hB
      simp only [Bool.and_eq_true] at hB
      obtain ⟨v, hy, h⟩ := h
      exact WholeG.first h0 (Region.noSelect_spec hsel) rest.length l listed a (Region.free_spec h0 hB.2) (by simpa using hB.1) hy (ih _ _ _ _ hl' hB' h)
theorem wp_region_W {id : Nat} {Q : Exit → Act → World → Prop} {a : Act} {w : World} {l : List Thing} {lo : List Oper} (loud : List Nat) (G : List Thing → Prop) (H : Heap W l w) (hG : G l) (hm : P.follows .mixedOrders = true) (hB : Region.lexWB lo.toArray loud = true)
    (h : wpW P lo.toArray W G loud (fun l' a' => ∀ w', Heap W l' w' → Q .normal a' w') lo 0 l a) : (Code.region id lo.toArray true).wp P Q a w := by
  simp only [Region.lexWB, Bool.and_eq_true] at hB
  refine wp_region_any hm ?_
  have := WholeG.lex (md := .any) hB.1 lo 0 l (Array.replicate lo.toArray.size false) a (fun j hj => by simp) (by simpa using hB.2) h
  have h2 := WholeG.any (Q := Q) (fun l a w H h => h w H) lo.length l _ a _ hG H.drew this
  simpa using h2
/-- Is this order one that serves? -/
def Region.lexO (md : Region.Mode) (ops : Array Oper) (loud : List Nat) : List Nat → Array Bool → Bool
  | [], listed => (Region.ready md ops listed).isEmpty
  | k :: ks, listed => (if loud.contains k then Region.ready md ops listed == [k] else (Region.ready md ops listed).contains k && Region.free md ops listed k) && Region.lexO md ops loud ks (listed.setIfInBounds k true)
def Region.lexOB (ops : Array Oper) (loud ord : List Nat) : Bool := Region.noSelect ops && Region.lexO .any ops loud ord (Array.replicate ops.size false) && ord.length == ops.size
/-- The walk in an order of one's own. -/
def wpO (P : Program) (ops : Array Oper) (W : World) (G : List Thing → Prop) (loud : List Nat) (K : List Thing → Act → Prop) : List Nat → List Thing → Act → Prop
  | [], l, a => K l a
  | k :: ks, l, a => ∃ o, ops[k]? = some o ∧ if loud.contains k then LoudG P ops W o l a fun l' u => G l' ∧ wpO P ops W G loud K ks l' (a.put o.dst u)
      else ∃ v, YieldsG P ops W G o v a ∧ wpO P ops W G loud K ks l (a.put o.dst v)
theorem WholeG.lexO {loud : List Nat} {K : List Thing → Act → Prop} (hsel : Region.noSelect ops = true) :
    ∀ (ks : List Nat) (l : List Thing) (listed : Array Bool) (a : Act), Region.lexO md ops loud ks listed = true → wpO P ops W G loud K ks l a → WholeG P md ops W G K ks.length l listed a := by
  intro ks
  induction ks with
  | nil => intro l listed a hB h; exact ⟨by simpa [Region.lexO] using hB, h⟩
  | cons k ks ih =>
    intro l listed a hB h
    obtain ⟨o, h0, h⟩ := h
    rw [Region.lexO] at hB
    simp only [Bool.and_eq_true] at hB
    obtain ⟨hB, hB'⟩ := hB
    by_cases hk : loud.contains k = true
    · rw [if_pos hk] at h hB
      have hr : Region.ready md ops listed = [k] := by simpa using hB
      refine ⟨by rw [hr]; simp, fun i hi => ?_⟩
      rw [hr] at hi
      obtain rfl : i = k := by simpa using hi
      exact ⟨o, h0, .inr (h.mono fun l' u ⟨hg, h⟩ => ⟨hg, ih _ _ _ hB' h⟩)⟩
    · rw [if_neg hk] at h hB
      simp only [Bool.and_eq_true] at hB
      obtain ⟨v, hy, h⟩ := h
      exact WholeG.first h0 (Region.noSelect_spec hsel) ks.length l listed a (Region.free_spec h0 hB.2) (by simpa using hB.1) hy (ih _ _ _ hB' h)
theorem wp_region_O {id : Nat} {Q : Exit → Act → World → Prop} {a : Act} {w : World} {l : List Thing} {lo : List Oper} (loud ord : List Nat) (G : List Thing → Prop) (H : Heap W l w) (hG : G l) (hm : P.follows .mixedOrders = true) (hB : Region.lexOB lo.toArray loud ord = true)
    (h : wpO P lo.toArray W G loud (fun l' a' => ∀ w', Heap W l' w' → Q .normal a' w') ord l a) : (Code.region id lo.toArray true).wp P Q a w := by
  simp only [Region.lexOB, Bool.and_eq_true, beq_iff_eq] at hB
  refine wp_region_any hm ?_
  have := WholeG.lexO (md := .any) hB.1.1 ord l _ a hB.1.2 h
  have h2 := WholeG.any (Q := Q) (fun l a w H h => h w H) ord.length l _ a _ hG H.drew this
  rw [hB.2] at h2
  exact h2
theorem wpO_nil {loud : List Nat} {K : List Thing → Act → Prop} {l : List Thing} {a : Act} (h : K l a) : wpO P ops W G loud K [] l a := h
theorem wpO_step {lo : List Oper} {loud : List Nat} {K : List Thing → Act → Prop} {o : Oper} {k : Nat} {ks : List Nat} {l : List Thing} {a : Act} {s : Nat} {v : Value} (ho : lo[k]? = some o) (hk : loud.contains k = false) (hd : o.dst = some s) (hlt : s < a.tmps.size)
    (h1 : ∀ l0, G l0 → ∀ (w0 : World) (H0 : Heap W l0 w0), wpQuiet P lo.toArray (fun w' => ∃ d, w' = H0.any d) (fun a' => a'.tmps.getD s undef = v) [o] a) (h2 : wpO P lo.toArray W G loud K ks l (a.put o.dst v)) : wpO P lo.toArray W G loud K (k :: ks) l a := by
  have inj : ∀ u, (a.put o.dst u).tmps.getD s undef = v → u = v := fun u h => by
    rw [hd] at h
    simp [Act.put, hlt] at h
    exact h
  refine ⟨o, by simpa using ho, ?_⟩
  rw [if_neg (by rw [hk]; exact Bool.false_ne_true)]
  refine ⟨v, fun l0 hl0 w0 H0 => ?_, h2⟩
  have h := h1 l0 hl0 w0 H0
  unfold wpQuiet at h
  by_cases hw : Region.wanted o (yielded lo.toArray a.tmps) = true
  · rw [if_pos hw] at h
    obtain ⟨u, hu, hk⟩ := h
    obtain rfl := inj u hk
    exact .inl ⟨hw, hu⟩
  · rw [if_neg hw] at h
    exact .inr ⟨by simpa using hw, (inj undef h).symm⟩
theorem wpO_loud {lo : List Oper} {loud : List Nat} {K : List Thing → Act → Prop} {o : Oper} {k : Nat} {ks : List Nat} {l : List Thing} {a : Act} (ho : lo[k]? = some o) (hk : loud.contains k = true) (h : LoudG P lo.toArray W o l a fun l' u => G l' ∧ wpO P lo.toArray W G loud K ks l' (a.put o.dst u)) : wpO P lo.toArray W G loud K (k :: ks) l a := by
  refine ⟨o, by simpa using ho, ?_⟩
  rw [if_pos hk]
  exact h
theorem wpW_nil {loud : List Nat} {K : List Thing → Act → Prop} {k : Nat} {l : List Thing} {a : Act} (h : K l a) : wpW P ops W G loud K [] k l a := h
theorem wpW_step {loud : List Nat} {K : List Thing → Act → Prop} {o : Oper} {rest : List Oper} {k : Nat} {l : List Thing} {a : Act} {s : Nat} {v : Value} (hk : loud.contains k = false) (hd : o.dst = some s) (hlt : s < a.tmps.size)
    (h1 : ∀ l0, G l0 → ∀ (w0 : World) (H0 : Heap W l0 w0), wpQuiet P ops (fun w' => ∃ d, w' = H0.any d) (fun a' => a'.tmps.getD s undef = v) [o] a) (h2 : wpW P ops W G loud K rest (k + 1) l (a.put o.dst v)) : wpW P ops W G loud K (o :: rest) k l a := by
  have inj : ∀ u, (a.put o.dst u).tmps.getD s undef = v → u = v := fun u h => by
    rw [hd] at h
    simp [Act.put, hlt] at h
    exact h
  unfold wpW
  rw [if_neg (by rw [hk]; exact Bool.false_ne_true)]
  refine ⟨v, fun l0 hl0 w0 H0 => ?_, h2⟩
  have h := h1 l0 hl0 w0 H0
  unfold wpQuiet at h
  by_cases hw : Region.wanted o (yielded ops a.tmps) = true
  · rw [if_pos hw] at h
    obtain ⟨u, hu, hk⟩ := h
    obtain rfl := inj u hk
    exact .inl ⟨hw, hu⟩
  · rw [if_neg hw] at h
    exact .inr ⟨by simpa using hw, (inj undef h).symm⟩
theorem wpW_loud {loud : List Nat} {K : List Thing → Act → Prop} {o : Oper} {rest : List Oper} {k : Nat} {l : List Thing} {a : Act} (hk : loud.contains k = true) (h : LoudG P ops W o l a fun l' u => G l' ∧ wpW P ops W G loud K rest (k + 1) l' (a.put o.dst u)) : wpW P ops W G loud K (o :: rest) k l a := by
  unfold wpW
  rw [if_pos hk]
  exact h
end
section
variable {ops : Array Oper} {W : World} {G : List Thing → Prop} {loud : List Nat} {K : List Thing → Act → Prop} {rest : List Oper} {k : Nat} {l : List Thing} {a : Act} {T n : Nat} {z : Array Value}
theorem wpW_allocR {dst : Option Tmp} {ty : TypeId} {pos : String} {after : Array Edge} {guard : Option (Nat × Bool)} (RT : RowTy T n z) (hk : loud.contains k = true) (hw : Region.wanted ⟨dst, .alloc T, ty, pos, after, guard⟩ (yielded ops a.tmps) = true)
    (hG : ∀ p, G (Cel p z T :: l)) (h : ∀ p, wpW Try.prog ops W G loud K rest (k + 1) (Cel p z T :: l) (a.put dst (.pointer (some ⟨p, 0, none⟩)))) : wpW Try.prog ops W G loud K (⟨dst, .alloc T, ty, pos, after, guard⟩ :: rest) k l a := by
  refine wpW_loud hk ⟨hw, fun w H => ⟨Cel w.heap.size z T :: l, .pointer (some ⟨w.heap.size, 0, none⟩), w.alloc (.cells z T), .inl ?_, H.alloc _ _, hG _, h _⟩⟩
  have hz := RT.zero
  cases hi : Try.prog.info? T with
  | none => rw [hi] at hz; cases hz
  | some i =>
    rw [hi] at hz
    have hz' : i.zero = some (.agg z) := hz
    have r2 : (zeroValue T).run Try.prog w = .ok (.agg z) w := by simp [zeroValue, typeInfo, hi, hz', go_sem]
    unfold execOp
    simp only [Instr.alloc, Sem.run_bind, r2, Result.andThen_ok, newVar, newRow, Value.cells]
    rfl
theorem run_storeR (RT : RowTy T n z) {w : World} {b off : Nat} {c c0 : Array Value} {t : TypeId} (hc : Cells n c) (hb : w.heap[b]? = some (.cells c0 t (0, 0))) (hn : off + n ≤ c0.size) :
    (Instr.storeAt T (.pointer (some ⟨b, off, none⟩)) (.agg c)).run Try.prog w = .ok () (setBlk w b (splice c0 off c)) := by
  have ht : w.there b off c.size := fun j hj => ⟨by
    rw [cell_of_row w b (off + j) c0 t _ hb, Array.getElem?_eq_getElem (by have := hc.1; omega)]; rfl, frozen_of_row w b (off + j) c0 t hb⟩
  simp only [Instr.storeAt, Instr.sureAddr, Sem.run_bind, Sem.run_pure, Result.andThen_ok, run_storeVar_mid w b off T c ht (by rw [RT.size, hc.1]) hc.2]
  rw [setCells_blk b c.toList off w c0 t _ hb (by have := hc.1; simp; omega)]
  unfold splice
  simp
theorem wpW_storeR {dst : Option Tmp} {ty : TypeId} {pos : String} {after : Array Edge} {guard : Option (Nat × Bool)} {x y : Operand} {b off : Nat} {c2 : Array Value} (RT : RowTy T n z) (hk : loud.contains k = true) (hw : Region.wanted ⟨dst, .store T x y, ty, pos, after, guard⟩ (yielded ops a.tmps) = true) (hx : a.eval x = .pointer (some ⟨b, off, none⟩)) (hy : a.eval y = .agg c2) (hc : Cells n c2)
    {c c1 : Array Value} {t : TypeId} {l' : List Thing} (m : Cel b c t ∈ l) (hn : off + n ≤ c.size) (hs : splice c off c2 = c1) (r : Repl l (Cel b c t) (Cel b c1 t) l') (hG : G l')
    (h : wpW Try.prog ops W G loud K rest (k + 1) l' (a.put dst undef)) : wpW Try.prog ops W G loud K (⟨dst, .store T x y, ty, pos, after, guard⟩ :: rest) k l a := by
  subst hs
  refine wpW_loud hk ⟨hw, fun w H => ⟨l', undef, setBlk w b (splice c off c2), .inr ⟨?_, rfl⟩, H.set r, hG, h⟩⟩
  unfold execOp
  simp only [hx, hy, Sem.run_bind, run_storeR RT hc (H.blk m) hn, Result.andThen_ok]
  rfl
theorem run_storeC {T : TypeId} (CT : CellTy T) {w : World} {b off : Nat} {v : Value} {c0 : Array Value} {t : TypeId} (hc : v.cells = #[v] ∧ v.oneCell' = true) (hb : w.heap[b]? = some (.cells c0 t (0, 0))) (hn : off < c0.size) :
    (Instr.storeAt T (.pointer (some ⟨b, off, none⟩)) v).run Try.prog w = .ok () (setBlk w b (c0.setIfInBounds off v)) := by
  have hsz : (sizeOf T).run Try.prog w = .ok 1 w := by
    have := CT.size
    cases hi : Try.prog.info? T with
    | none => rw [hi] at this; cases this
    | some i => rw [hi] at this; simp at this; simp [sizeOf, typeInfo, hi, this, go_sem]
  have hcell : (w.cell? ⟨b, off, none⟩).isSome = true := by rw [cell_of_row w b off c0 t _ hb, Array.getElem?_eq_getElem hn]; rfl
  have hfr : w.frozen? ⟨b, off, none⟩ = false := frozen_of_row w b off c0 t hb
  have e : setBlk w b (c0.setIfInBounds off v) = w.setCell ⟨b, off, none⟩ v := by
    refine World.eq_of ?_ rfl rfl rfl rfl
    apply Array.ext_getElem?
    intro j
    by_cases e : j = b
    · subst e; rw [setBlk_same _ j _ c0 t _ hb, Joins.block_setCell (i := off) hb]
    · rw [setBlk_block _ _ _ _ e, Below.heap_setCell _ _ _ _ e]
  rw [e]
  obtain ⟨u, hu⟩ := Option.isSome_iff_exists.1 hcell
  simp only [Instr.storeAt, Instr.sureAddr, storeVar, Sem.run_bind, Sem.run_pure, Result.andThen_ok, hsz, hc.1]
  have hst : (store ⟨b, off, none⟩ v).run Try.prog w = .ok () (w.setCell ⟨b, off, none⟩ v) := by rw [run_store _ _ _ _ _ hc.2, hu]; simp [hfr]
  simp [storeCells, go_sem, hst]
theorem wpO_storeC {lo : List Oper} {ks : List Nat} {k : Nat} {T : TypeId} {dst : Option Tmp} {ty : TypeId} {pos : String} {after : Array Edge} {guard : Option (Nat × Bool)} {x y : Operand} {b off : Nat} {v : Value} (CT : CellTy T) (ho : lo[k]? = some ⟨dst, .store T x y, ty, pos, after, guard⟩) (hk : loud.contains k = true) (hw : Region.wanted ⟨dst, .store T x y, ty, pos, after, guard⟩ (yielded lo.toArray a.tmps) = true) (hx : a.eval x = .pointer (some ⟨b, off, none⟩)) (hy : a.eval y = v) (hc : v.cells = #[v] ∧ v.oneCell' = true)
    {c c1 : Array Value} {t : TypeId} {l' : List Thing} (m : Cel b c t ∈ l) (hn : off < c.size) (hs : c.setIfInBounds off v = c1) (r : Repl l (Cel b c t) (Cel b c1 t) l') (hG : G l')
    (h : wpO Try.prog lo.toArray W G loud K ks l' (a.put dst undef)) : wpO Try.prog lo.toArray W G loud K (k :: ks) l a := by
  subst hs
  refine wpO_loud ho hk ⟨hw, fun w H => ⟨l', undef, setBlk w b (c.setIfInBounds off v), .inr ⟨?_, rfl⟩, H.set r, hG, h⟩⟩
  unfold execOp
  simp only [hx, hy, Sem.run_bind, run_storeC CT hc (H.blk m) hn, Result.andThen_ok]
  rfl
theorem wpO_storeI {lo : List Oper} {ks : List Nat} {k : Nat} {T : TypeId} {dst : Option Tmp} {ty : TypeId} {pos : String} {after : Array Edge} {guard : Option (Nat × Bool)} {x y : Operand} {b off : Nat} {k0 : IntKind} {n0 : Int} (CT : CellTy T) (ho : lo[k]? = some ⟨dst, .store T x y, ty, pos, after, guard⟩) (hk : loud.contains k = true) (hw : Region.wanted ⟨dst, .store T x y, ty, pos, after, guard⟩ (yielded lo.toArray a.tmps) = true) (hx : a.eval x = .pointer (some ⟨b, off, none⟩)) (hy : a.eval y = .int k0 n0)
    {c c1 : Array Value} {t : TypeId} {l' : List Thing} (m : Cel b c t ∈ l) (hn : off < c.size) (hs : c.setIfInBounds off (.int k0 n0) = c1) (r : Repl l (Cel b c t) (Cel b c1 t) l') (hG : G l')
    (h : wpO Try.prog lo.toArray W G loud K ks l' (a.put dst undef)) : wpO Try.prog lo.toArray W G loud K (k :: ks) l a := wpO_storeC CT ho hk hw hx hy ⟨rfl, rfl⟩ m hn hs r hG h
theorem wpO_storeB {lo : List Oper} {ks : List Nat} {k : Nat} {T : TypeId} {dst : Option Tmp} {ty : TypeId} {pos : String} {after : Array Edge} {guard : Option (Nat × Bool)} {x y : Operand} {b off : Nat} {b0 : Bool} (CT : CellTy T) (ho : lo[k]? = some ⟨dst, .store T x y, ty, pos, after, guard⟩) (hk : loud.contains k = true) (hw : Region.wanted ⟨dst, .store T x y, ty, pos, after, guard⟩ (yielded lo.toArray a.tmps) = true) (hx : a.eval x = .pointer (some ⟨b, off, none⟩)) (hy : a.eval y = .bool b0)
    {c c1 : Array Value} {t : TypeId} {l' : List Thing} (m : Cel b c t ∈ l) (hn : off < c.size) (hs : c.setIfInBounds off (.bool b0) = c1) (r : Repl l (Cel b c t) (Cel b c1 t) l') (hG : G l')
    (h : wpO Try.prog lo.toArray W G loud K ks l' (a.put dst undef)) : wpO Try.prog lo.toArray W G loud K (k :: ks) l a := wpO_storeC CT ho hk hw hx hy ⟨rfl, rfl⟩ m hn hs r hG h
end
end Go.Proofs.Ytgobnamhdkbbeaa

/- Rows of cells by their numbers; kinds of cells; a list that is answered. -/
namespace Go.Proofs.Ytgobnamhdkbbeaa
open Go.RowKit
theorem cell_i64 : CellTy 2 := ⟨⟨_, Try.underlying2, rfl⟩, by kernel_rfl⟩
theorem cell_bool : CellTy 4 := ⟨⟨_, Try.underlying4, rfl⟩, by kernel_rfl⟩
theorem cell_party : CellTy 30 := ⟨⟨_, Try.underlying30, rfl⟩, by kernel_rfl⟩
/-- A row of n cells. -/
def tab (n : Nat) (f : Nat → Value) : Array Value := Array.ofFn (n := n) fun i => f i.val
theorem tab_size (n : Nat) (f : Nat → Value) : (tab n f).size = n := by simp [tab]
theorem tab_get {n i : Nat} (f : Nat → Value) (h : i < n) : (tab n f)[i]? = some (f i) := by simp [tab, h]
theorem tab_set {n i : Nat} (f : Nat → Value) (v : Value) (h : i < n) : (tab n f).setIfInBounds i v = tab n fun j => if j = i then v else f j := by
  apply Array.ext_getElem?
  intro j
  rw [Array.getElem?_setIfInBounds]
  by_cases hj : j < n
  · rw [tab_get _ hj]
    by_cases e : i = j
    · subst e; rw [if_pos rfl, if_pos (by rw [tab_size]; exact h), tab_get _ hj]; simp
    · rw [if_neg e, tab_get _ hj, if_neg (fun h => e h.symm)]
  · have h1 : ∀ g : Nat → Value, (tab n g)[j]? = none := fun g => by simp [tab, hj]
    rw [h1, h1]
    split
    · rw [if_neg (by rw [tab_size]; omega)]
    · rfl
theorem tab_ext {n m lo : Nat} (f : Nat → Value) (h : lo + m ≤ n) : (tab n f).extract lo (lo + m) = tab m fun j => f (lo + j) := by
  apply Array.ext_getElem?
  intro j
  rw [Array.getElem?_extract]
  by_cases hj : j < m
  · rw [tab_get _ hj, if_pos (by rw [tab_size]; omega), tab_get _ (by omega)]
  · rw [if_neg (by omega)]
    simp [tab, hj]
theorem tab_congr {n : Nat} {f g : Nat → Value} (h : ∀ i, i < n → f i = g i) : tab n f = tab n g := by
  apply Array.ext_getElem?
  intro j
  by_cases hj : j < n
  · rw [tab_get _ hj, tab_get _ hj, h j hj]
  · simp [tab, hj]
theorem tab_cells {n : Nat} {f : Nat → Value} (h : ∀ i, i < n → (f i).oneCell' = true) : Cells n (tab n f) := by
  refine ⟨tab_size _ _, ?_⟩
  rw [Array.all_eq_true_iff_forall_mem]
  intro x hx
  obtain ⟨i, hi, rfl⟩ := Array.mem_iff_getElem.1 hx
  rw [tab_size] at hi
  have := tab_get f hi
  rw [Array.getElem?_eq_getElem (by rw [tab_size]; exact hi)] at this
  rw [Option.some.inj this]
  exact h i hi
/-- A list that is answered: nil, if it is empty; else it lies in a block of its own. -/
def ListPost (W : World) (l : List Thing) (e size : Nat) (xs : List Value) (n : Nat) (r : Ending) (w' : World) : Prop :=
  (n = 0 ∧ r = .returned (.slice none 0 0) ∧ Heap W l w') ∨ (0 < n ∧ ∃ g c, r = .returned (.slice (some ⟨g, 0, none⟩) n n) ∧ n ≤ c ∧ Heap W (Sl g e size n c xs :: l) w')
theorem ListPost.nil {W : World} {l : List Thing} {e size n : Nat} {xs : List Value} {w' : World} (h : n = 0) (H : Heap W l w') : ListPost W l e size xs n (.returned (.slice none 0 0)) w' := .inl ⟨h, rfl, H⟩
theorem ListPost.some {W : World} {l : List Thing} {e size n : Nat} {xs : List Value} {w' : World} (h : 0 < n) (g c : Nat) (hc : n ≤ c) (H : Heap W (Sl g e size n c xs :: l) w') : ListPost W l e size xs n (.returned (.slice (some ⟨g, 0, none⟩) n n)) w' := .inr ⟨h, g, c, rfl, hc, H⟩
end Go.Proofs.Ytgobnamhdkbbeaa

/- Distances by breadth: plain laws, with no program in sight. -/
namespace Go.Proofs.Ytgobnamhdkbbeaa
set_option linter.unusedVariables false
/-- A value of one more place. -/
def updN {α : Type} (d : Nat → α) (p : Nat) (v : α) : Nat → α := fun q => if q = p then v else d q
/-- How many of the parties have no distance. -/
def und (d : Nat → Nat) : Nat := (List.range' 1 16).countP fun p => d p == 17
theorem countP_upd (d : Nat → Nat) (p v : Nat) (hv : v ≠ 17) (hd : d p = 17) : ∀ (l : List Nat), l.Nodup → l.countP (fun q => updN d p v q == 17) + (if p ∈ l then 1 else 0) = l.countP (fun q => d q == 17)
  | [], _ => by simp
  | x :: l, h => by
    have ih := countP_upd d p v hv hd l (List.nodup_cons.1 h).2
    have hx := (List.nodup_cons.1 h).1
    by_cases e : x = p
    · subst e
      have h1 : (updN d x v x == 17) = false := by simp [updN, hv]
      have h2 : (d x == 17) = true := by simp [hd]
      simp only [List.countP_cons, h1, h2]
      rw [if_neg hx] at ih
      simp
      omega
    · have e2 : updN d p v x = d x := by simp [updN, e]
      have hm : (p ∈ x :: l) ↔ p ∈ l := by
        rw [List.mem_cons]
        exact ⟨fun h => h.resolve_left (fun h => e h.symm), .inr⟩
      simp only [List.countP_cons, e2, hm]
      omega
theorem und_upd {d : Nat → Nat} {p v : Nat} (hv : v ≠ 17) (hd : d p = 17) (h1 : 1 ≤ p) (h2 : p ≤ 16) : und (updN d p v) + 1 = und d := by
  have := countP_upd d p v hv hd (List.range' 1 16) (List.nodup_range' ..)
  rw [if_pos (by rw [List.mem_range']; exact ⟨p - 1, by omega, by omega⟩)] at this
  exact this
theorem und_le (d : Nat → Nat) : und d ≤ 16 := by
  have := List.countP_le_length (p := fun p => d p == 17) (l := List.range' 1 16)
  simpa [und] using this
/-- The state ahead of a round: who has a distance, and who waits. -/
structure Bfs (A : Nat → Nat → Bool) (t : Nat) (d : Nat → Nat) (Q : List Nat) : Prop where
  top : d t = 0
  le : ∀ p, d p ≤ 17
  ins : ∀ p, d p < 17 → 1 ≤ p ∧ p ≤ 16
  qd : ∀ q ∈ Q, d q < 17
  near : ∀ q ∈ Q, ∀ p, d p < 17 → d p ≤ d q + 1
  sort : Q.Pairwise fun x y => d x ≤ d y
  closed : ∀ q, d q < 17 → q ∉ Q → ∀ p, A p q = true → d p ≤ d q + 1
  par : ∀ p, d p < 17 → p ≠ t → ∃ q, A p q = true ∧ d q + 1 = d p
  cnt : ∀ p, d p < 17 → d p + und d ≤ 15
/-- The state in the midst of a round: a is gone through, up to k. -/
structure BfsIn (A : Nat → Nat → Bool) (t : Nat) (d : Nat → Nat) (Q : List Nat) (a k : Nat) : Prop where
  top : d t = 0
  le : ∀ p, d p ≤ 17
  ins : ∀ p, d p < 17 → 1 ≤ p ∧ p ≤ 16
  qd : ∀ q ∈ Q, d q < 17
  near : ∀ q ∈ Q, ∀ p, d p < 17 → d p ≤ d q + 1
  sort : Q.Pairwise fun x y => d x ≤ d y
  ad : d a < 17
  nearA : ∀ p, d p < 17 → d p ≤ d a + 1
  sortA : ∀ q ∈ Q, d a ≤ d q
  closed : ∀ q, d q < 17 → q ∉ Q → q ≠ a → ∀ p, A p q = true → d p ≤ d q + 1
  part : ∀ p, p < k → A p a = true → d p ≤ d a + 1
  par : ∀ p, d p < 17 → p ≠ t → ∃ q, A p q = true ∧ d q + 1 = d p
  cnt : ∀ p, d p < 17 → d p + und d ≤ 15
section
variable {A : Nat → Nat → Bool} {t a k : Nat} {d : Nat → Nat} {Q : List Nat}
/-- No distance. -/
def farN : Nat → Nat := fun _ => 17
theorem farN_at (p : Nat) : farN p = 17 := rfl
theorem Bfs.start (h1 : 1 ≤ t) (h2 : t ≤ 16) : Bfs A t (updN farN t 0) [t] := by
  have hd : ∀ p, updN farN t 0 p < 17 → p = t := fun p hp => by
    unfold updN at hp
    split at hp
    · assumption
    · rw [farN_at] at hp; omega
  have hu : und (updN farN t 0) ≤ 15 := by
    have := und_upd (d := farN) (p := t) (v := 0) (by omega) rfl h1 h2
    have := und_le farN
    omega
  have ht : updN farN t 0 t = 0 := by simp [updN]
  have hle : ∀ p, updN farN t 0 p ≤ 17 := fun p => by
    unfold updN
    split
    · omega
    · rw [farN_at]; omega
  refine ⟨ht, hle, fun p hp => (by rw [hd p hp]; exact ⟨h1, h2⟩), fun q hq => (by simp at hq; subst hq; rw [ht]; omega), fun q hq p hp => (by rw [hd p hp, ht]; omega), List.pairwise_singleton _ _, fun q hq hn => ?_, fun p hp hn => absurd (hd p hp) hn, fun p hp => (by rw [hd p hp, ht]; omega)⟩
  rw [hd q hq] at hn
  simp at hn
theorem Bfs.pop (h : Bfs A t d (a :: Q)) (h0 : A 0 a = false) : BfsIn A t d Q a 1 :=
  ⟨h.top, h.le, h.ins, fun q hq => h.qd q (List.mem_cons_of_mem _ hq), fun q hq => h.near q (List.mem_cons_of_mem _ hq), (List.pairwise_cons.1 h.sort).2, h.qd a (List.mem_cons_self ..), h.near a (List.mem_cons_self ..), (List.pairwise_cons.1 h.sort).1,
    fun q hq hn hne => h.closed q hq (by simp [hne, hn]), fun p hp hA => (by
      obtain rfl : p = 0 := by omega
      rw [h0] at hA; cases hA), h.par, h.cnt⟩
theorem BfsIn.no (h : BfsIn A t d Q a k) (hk : ¬ (d k = 17 ∧ A k a = true)) : BfsIn A t d Q a (k + 1) :=
  ⟨h.top, h.le, h.ins, h.qd, h.near, h.sort, h.ad, h.nearA, h.sortA, h.closed, fun p hp hA => (by
      by_cases e : p = k
      · subst e
        have : d p ≠ 17 := fun e => hk ⟨e, hA⟩
        have := h.le p
        exact h.nearA p (by omega)
      · exact h.part p (by omega) hA), h.par, h.cnt⟩
theorem BfsIn.yes (h : BfsIn A t d Q a k) (hd : d k = 17) (hA : A k a = true) (h1 : 1 ≤ k) (h2 : k ≤ 16) : BfsIn A t (updN d k (d a + 1)) (Q ++ [k]) a (k + 1) ∧ und (updN d k (d a + 1)) + 1 = und d := by
  have hka : a ≠ k := fun e => by have := h.ad; rw [e] at this; omega
  have hca := h.cnt a h.ad
  have hu : und (updN d k (d a + 1)) + 1 = und d := und_upd (by omega) hd h1 h2
  have old : ∀ p, p ≠ k → updN d k (d a + 1) p = d p := fun p hp => by simp [updN, hp]
  have new : updN d k (d a + 1) k = d a + 1 := by simp [updN]
  have hqk : ∀ q ∈ Q, q ≠ k := fun q hq e => by have := h.qd q hq; rw [e] at this; omega
  have htk : t ≠ k := fun e => by have := h.top; rw [e] at this; omega
  refine ⟨⟨by rw [old t htk]; exact h.top, fun p => ?_, fun p hp => ?_, fun q hq => ?_, fun q hq p hp => ?_, ?_, by rw [old a hka]; exact h.ad, fun p hp => ?_, fun q hq => ?_, fun q hq hn hne p hAp => ?_, fun p hp hAp => ?_, fun p hp hne => ?_, fun p hp => ?_⟩, hu⟩
  · by_cases e : p = k
    · subst e; rw [new]; omega
    · rw [old p e]; exact h.le p
  · by_cases e : p = k
    · subst e; exact ⟨h1, h2⟩
    · rw [old p e] at hp; exact h.ins p hp
  · rcases List.mem_append.1 hq with hq | hq
    · rw [old q (hqk q hq)]; exact h.qd q hq
    · obtain rfl : q = k := by simpa using hq
      rw [new]; omega
  · have hp' : updN d k (d a + 1) p ≤ d a + 1 := by
      by_cases e : p = k
      · subst e; rw [new]; omega
      · rw [old p e] at hp ⊢; exact h.nearA p hp
    rcases List.mem_append.1 hq with hq | hq
    · rw [old q (hqk q hq)]
      have := h.sortA q hq
      omega
    · obtain rfl : q = k := by simpa using hq
      rw [new]; omega
  · rw [List.pairwise_append]
    refine ⟨?_, List.pairwise_singleton _ _, fun x hx y hy => ?_⟩
    · refine h.sort.imp_of_mem fun hx hy hxy => ?_
      rw [old _ (hqk _ hx), old _ (hqk _ hy)]; exact hxy
    · obtain rfl : y = k := by simpa using hy
      rw [old x (hqk x hx), new]
      exact h.nearA x (h.qd x hx)
  · rw [old a hka]
    by_cases e : p = k
    · subst e; rw [new]; omega
    · rw [old p e] at hp ⊢; exact h.nearA p hp
  · rw [old a hka]
    rcases List.mem_append.1 hq with hq | hq
    · rw [old q (hqk q hq)]; exact h.sortA q hq
    · obtain rfl : q = k := by simpa using hq
      rw [new]; omega
  · have hqk' : q ≠ k := fun e => hn (by simp [e])
    rw [old q hqk'] at hq ⊢
    have := h.closed q hq (fun hm => hn (by simp [hm])) hne p hAp
    by_cases e : p = k
    · subst e; rw [hd] at this; omega
    · rw [old p e]; exact this
  · rw [old a hka]
    by_cases e : p = k
    · subst e; rw [new]; omega
    · rw [old p e]; exact h.part p (by omega) hAp
  · by_cases e : p = k
    · subst e
      exact ⟨a, hA, by rw [old a hka, new]⟩
    · rw [old p e] at hp
      obtain ⟨q, hq, he⟩ := h.par p hp hne
      have hqk' : q ≠ k := fun e2 => by rw [e2, hd] at he; have := h.le p; omega
      exact ⟨q, hq, by rw [old q hqk', old p e]; exact he⟩
  · by_cases e : p = k
    · subst e; rw [new]; omega
    · rw [old p e] at hp ⊢
      have := h.cnt p hp
      omega
theorem BfsIn.done (h : BfsIn A t d Q a 17) (hA : ∀ p q, A p q = true → p ≤ 16) : Bfs A t d Q :=
  ⟨h.top, h.le, h.ins, h.qd, h.near, h.sort, fun q hq hn p hAp => (by
    by_cases e : q = a
    · subst e; exact h.part p (by have := hA p q hAp; omega) hAp
    · exact h.closed q hq hn e p hAp), h.par, h.cnt⟩
/-- Distances to t: each is reached over a neighbour one nearer; no neighbour is two nearer. -/
structure IsDist (A : Nat → Nat → Bool) (t : Nat) (d : Nat → Nat) : Prop where
  top : d t = 0
  le : ∀ p, d p ≤ 17
  ins : ∀ p, d p < 17 → 1 ≤ p ∧ p ≤ 16 ∧ d p ≤ 15
  step : ∀ p q, A p q = true → d p ≤ d q + 1
  par : ∀ p, d p < 17 → p ≠ t → ∃ q, A p q = true ∧ d q + 1 = d p
theorem Bfs.dist (h : Bfs A t d []) : IsDist A t d :=
  ⟨h.top, h.le, fun p hp => ⟨(h.ins p hp).1, (h.ins p hp).2, by have := h.cnt p hp; omega⟩, fun p q hA => (by
    by_cases hq : d q < 17
    · exact h.closed q hq (by simp) p hA
    · have := h.le p; omega), h.par⟩
/-- There is one such table alone. -/
theorem IsDist.eq {d e : Nat → Nat} (h : IsDist A t d) (g : IsDist A t e) : ∀ p, d p = e p := by
  have one : ∀ {d e : Nat → Nat}, IsDist A t d → IsDist A t e → ∀ n p, e p = n → n < 17 → d p ≤ n := by
    intro d e h g n
    induction n with
    | zero =>
      intro p hp _
      by_cases e1 : p = t
      · subst e1; rw [h.top]; omega
      · obtain ⟨q, _, hq⟩ := g.par p (by omega) e1
        omega
    | succ n ih =>
      intro p hp hn
      by_cases e1 : p = t
      · subst e1; rw [h.top]; omega
      · obtain ⟨q, hA, hq⟩ := g.par p (by omega) e1
        have := ih q (by omega) (by omega)
        have := h.step p q hA
        omega
  intro p
  have h1 := h.le p
  have h2 := g.le p
  by_cases hd : d p < 17
  · have a1 := one g h (d p) p rfl hd
    by_cases he : e p < 17
    · have := one h g (e p) p rfl he; omega
    · omega
  · by_cases he : e p < 17
    · have := one h g (e p) p rfl he; omega
    · omega
end
end Go.Proofs.Ytgobnamhdkbbeaa

/- Parties that may be; rows of 17; a party's cell. -/
namespace Go.Proofs.Ytgobnamhdkbbeaa
open Go.RowKit
set_option linter.unusedSimpArgs false
set_option linter.unusedVariables false
def row17 (r : Nat → Int) : Array Value := tab 17 fun i => .int .i64 (r i)
theorem row17_sz (c : Nat → Int) : (row17 c).size = 17 := tab_size _ _
/-- May a party be? -/
def mayP (a : Nat) : Bool := decide (1 ≤ a) && decide (a ≤ 16)
theorem mayP_true {a : Nat} (h : mayP a = true) : 1 ≤ a ∧ a ≤ 16 := by simpa [mayP] using h
theorem cell_int : CellTy 3 := ⟨⟨_, Try.underlying3, rfl⟩, by kernel_rfl⟩
theorem slP : SlTy Try.prog 100 30 1 1 (.int .u8 0) := slTy_mk Try.underlying100 (by kernel_rfl) rfl (by decide)
theorem bs_party : Try.prog.underlying 100 = some (.slice 30) ∧ (Try.prog.info? 30).map (fun i => (i.size, i.zero)) = some (1, some (.int .u8 0)) := ⟨Try.underlying100, by kernel_rfl⟩
theorem row_17i : RowTy 141 17 (row17 fun _ => 0) := ⟨⟨_, Try.underlying141, rfl⟩, by kernel_rfl, by kernel_rfl⟩
theorem row17_get (r : Nat → Int) {i : Nat} (h : i < 17) : (row17 r)[i]? = some (.int .i64 (r i)) := tab_get _ h
theorem row17_set (r : Nat → Int) {i : Nat} (h : i < 17) (v : Int) : (row17 r).setIfInBounds i (.int .i64 v) = row17 (updN r i v) := by
  unfold row17
  rw [tab_set _ _ h]
  apply tab_congr
  intro j hj
  unfold updN
  split <;> rfl
def pv (p : Nat) : Value := .int .u8 (p : Int)
theorem pv_ones (p : Nat) : ∀ v ∈ [Value.int .u8 (p : Int)], v.cells = #[v] := by intro v hv; simp at hv; subst hv; rfl
theorem pv_one (p : Nat) : OneCells [Value.int .u8 (p : Int)] := by intro v hv; simp at hv; subst hv; rfl
end Go.Proofs.Ytgobnamhdkbbeaa

/- Flows in memory. -/
namespace Go.Proofs.Ytgobnamhdkbbeaa
open Go.RowKit
set_option linter.unusedSimpArgs false
set_option linter.unusedVariables false
/-- A flow: from, to, how much. -/
structure Flw where
  f : Nat
  t : Nat
  n : Int
def flwV (x : Flw) : List Value := [.int .u8 (x.f : Int), .int .u8 (x.t : Int), .int .i64 x.n]
def flwL (F : List Flw) : List Value := F.flatMap flwV
theorem flwL_len (F : List Flw) : (flwL F).length = F.length * 3 := by
  induction F with
  | nil => rfl
  | cons x F ih => simp only [flwL, List.flatMap_cons, List.length_append] at *; rw [ih]; simp [flwV, Nat.add_mul]; omega
theorem flwL_at (F : List Flw) (i : Nat) (h : i < F.length) : ((flwL F).drop (i * 3)).take 3 = flwV F[i] := by
  induction F generalizing i with
  | nil => simp at h
  | cons x F ih =>
    rcases i with _ | i
    · simp [flwL, flwV]
    · have : (i + 1) * 3 = 3 + i * 3 := by omega
      rw [this, ← List.drop_drop]
      simp only [List.length_cons] at h
      have := ih i (by omega)
      simpa [flwL, flwV] using this
/-- Such as can be: numbers of their types. -/
def FlwOk (x : Flw) : Prop := x.f ≤ 255 ∧ x.t ≤ 255 ∧ -9223372036854775808 ≤ x.n ∧ x.n ≤ 9223372036854775807
def flow (f : Int) (t : Int) (n : Int) : Array Value := #[.int .u8 f, .int .u8 t, .int .i64 n]
section
variable (f : Int) (t : Int) (n : Int)
theorem flow_sz : (flow f t n).size = 3 := rfl
theorem flow_g0 : (flow f t n)[0]? = some (.int .u8 f) := rfl
theorem flow_s0 (v : Int) : (flow f t n).setIfInBounds 0 (.int .u8 v) = flow v t n := rfl
theorem flow_g1 : (flow f t n)[1]? = some (.int .u8 t) := rfl
theorem flow_s1 (v : Int) : (flow f t n).setIfInBounds 1 (.int .u8 v) = flow f v n := rfl
theorem flow_g2 : (flow f t n)[2]? = some (.int .i64 n) := rfl
theorem flow_s2 (v : Int) : (flow f t n).setIfInBounds 2 (.int .i64 v) = flow f t v := rfl
end
theorem flow_all (f t n : Int) : (flow f t n).extract 0 (0 + 3) = flow f t n := by simp [flow]
theorem flow_cells (f t n : Int) : Cells 3 (flow f t n) := ⟨rfl, by simp [flow, Value.oneCell']⟩
theorem flow_splice (a b c f t n : Int) : splice (flow a b c) 0 (flow f t n) = flow f t n := splice_all rfl
theorem row_flow : RowTy 32 3 (flow 0 0 0) := ⟨⟨_, Try.underlying32, rfl⟩, by kernel_rfl, by kernel_rfl⟩
theorem slF : SlTy Try.prog 24 32 3 16 (.agg (flow 0 0 0)) := slTy_mk Try.underlying24 (by kernel_rfl) rfl (by decide)
theorem bs_flow : Try.prog.underlying 24 = some (.slice 32) ∧ (Try.prog.info? 32).map (fun i => (i.size, i.zero.map Value.cells)) = some ((flow 0 0 0).size, some (flow 0 0 0)) ∧ 0 < (flow 0 0 0).size ∧ (flow 0 0 0).size ≤ 65536 := ⟨Try.underlying24, by kernel_rfl, by decide, by decide⟩
end Go.Proofs.Ytgobnamhdkbbeaa
