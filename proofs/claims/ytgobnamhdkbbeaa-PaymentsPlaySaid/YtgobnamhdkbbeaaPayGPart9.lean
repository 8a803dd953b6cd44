/- Part 9 of what several laws stand on: Ledger, LedMap, LedPos, LedSet, LedTy, HeapPair, Led1, Led2, LedSort. -/
import Derived.Test.YtgobnamhdkbbeaaPayGPart8
import Derived.RowKit
import Derived.Test.YtgobnamhdkbbeaaRows
import Derived.Shelf.SlMaps.Clone
import Derived.Shelf.SlSortCmp.WholeK
/- Ledgers as lists of lines: what each act answers, and makes of a ledger. -/
namespace Go.Proofs.Ytgobnamhdkbbeaa

structure Lin where
  (cr db cu lim deb : Int)
deriving DecidableEq
def Lin.rank (x : Lin) : Int := x.cu * 65536 + x.cr * 256 + x.db
/-- Is x the line of these ends? -/
def Lin.at (x : Lin) (cr db cu : Int) : Bool := x.cr == cr && x.db == db && x.cu == cu
theorem Lin.at_iff {x : Lin} {cr db cu : Int} : x.at cr db cu = true ↔ x.cr = cr ∧ x.db = db ∧ x.cu = cu := by simp [Lin.at, and_assoc]
theorem Lin.at_not {x : Lin} {cr db cu : Int} : x.at cr db cu = false ↔ ¬ (x.cr = cr ∧ x.db = db ∧ x.cu = cu) := by rw [← Lin.at_iff]; simp
structure Lgr where
  (P : List Int) (L : List Lin)
def lineOf (L : List Lin) (cr db cu : Int) : Option Lin := L.find? fun x => x.at cr db cu
def limOf (L : List Lin) (cr db cu : Int) : Int := ((lineOf L cr db cu).map (·.lim)).getD 0
def debOf (L : List Lin) (cr db cu : Int) : Int := ((lineOf L cr db cu).map (·.deb)).getD 0
def isLine (L : List Lin) (cr db cu : Int) : Bool := (lineOf L cr db cu).isSome
def addL (L : List Lin) (cr db cu n : Int) : List Lin := L.map fun x => if x.at cr db cu then { x with deb := x.deb + n } else x
def setL (L : List Lin) (x : Lin) : List Lin :=
  L.filter (fun y => decide (y.rank < x.rank)) ++ (if x.lim = 0 then [] else [x]) ++ L.filter (fun y => decide (x.rank < y.rank))
def insP (P : List Int) (p : Int) : List Int := P.filter (fun q => decide (q < p)) ++ p :: P.filter (fun q => decide (p < q))

structure LinOk (P : List Int) (x : Lin) : Prop where
  cr : x.cr ∈ P
  db : x.db ∈ P
  ne : x.cr ≠ x.db
  cu : 1 ≤ x.cu ∧ x.cu ≤ 8
  lim : 1 ≤ x.lim ∧ x.lim ≤ 1099511627776
  deb : 0 ≤ x.deb ∧ x.deb ≤ x.lim
structure Lgr.Good (S : Lgr) : Prop where
  par : S.P.Pairwise (· < ·)
  par1 : ∀ p ∈ S.P, 1 ≤ p ∧ p ≤ 16
  ord : S.L.Pairwise (fun x y => x.rank < y.rank)
  ok : ∀ x ∈ S.L, LinOk S.P x
  few : S.L.length ≤ 64
def Lgr.new : Lgr := ⟨[], []⟩
theorem Lgr.new_good : Lgr.new.Good := ⟨.nil, (fun _ h => by cases h), .nil, (fun _ h => by cases h), by simp [Lgr.new]⟩

/-! What the acts answer, and make. -/
def openE (S : Lgr) (p : Int) : Int := if p < 1 ∨ 16 < p then 1 else if p ∈ S.P then 8 else 0
def openS (S : Lgr) (p : Int) : Lgr := if openE S p = 0 then ⟨insP S.P p, S.L⟩ else S
def badEnds (cr db cu : Int) : Prop := cr < 1 ∨ 16 < cr ∨ db < 1 ∨ 16 < db ∨ cr = db ∨ cu < 1 ∨ 8 < cu
instance (cr db cu : Int) : Decidable (badEnds cr db cu) := by unfold badEnds; infer_instance
def trustE (S : Lgr) (cr db cu lim : Int) : Int :=
  if badEnds cr db cu ∨ lim < 0 ∨ 1099511627776 < lim then 1 else if cr ∉ S.P ∨ db ∉ S.P then 7 else if lim < debOf S.L cr db cu then 14
  else if isLine S.L cr db cu = false ∧ 0 < lim ∧ 64 ≤ S.L.length then 9 else 0
def trustS (S : Lgr) (cr db cu lim : Int) : Lgr := if trustE S cr db cu lim = 0 then ⟨S.P, setL S.L ⟨cr, db, cu, lim, debOf S.L cr db cu⟩⟩ else S
def roomOf (S : Lgr) (f t c : Int) : Int := debOf S.L f t c + limOf S.L t f c - debOf S.L t f c
def pushE (S : Lgr) (f t c n : Int) : Int := if n < 1 then 1 else if roomOf S f t c < n then 11 else 0
def fallOf (S : Lgr) (f t c n : Int) : Int := min n (debOf S.L f t c)
def pushS (S : Lgr) (f t c n : Int) : Lgr := if pushE S f t c n = 0 then ⟨S.P, addL (addL S.L f t c (-fallOf S f t c n)) t f c (n - fallOf S f t c n)⟩ else S
def forgE (S : Lgr) (cr db cu n : Int) : Int := if n < 1 then 1 else if isLine S.L cr db cu = false then 7 else if debOf S.L cr db cu < n then 14 else 0
def forgS (S : Lgr) (cr db cu n : Int) : Lgr := if forgE S cr db cu n = 0 then ⟨S.P, addL S.L cr db cu (-n)⟩ else S
def posL (L : List Lin) (p c : Int) : Int := (L.map fun x => (if x.cu = c ∧ x.cr = p then x.deb else 0) - (if x.cu = c ∧ x.db = p then x.deb else 0)).sum
def totL (L : List Lin) (c : Int) : Int := (L.map fun x => if x.cu = c then x.deb else 0).sum

/-! Ranks and ends. -/
section
variable {S : Lgr} {x y : Lin} {cr db cu : Int}
theorem rank_inj {a b c a' b' c' : Int} (h1 : 0 ≤ a ∧ a < 256) (h2 : 0 ≤ b ∧ b < 256) (h1' : 0 ≤ a' ∧ a' < 256) (h2' : 0 ≤ b' ∧ b' < 256) (h : c * 65536 + a * 256 + b = c' * 65536 + a' * 256 + b') : a = a' ∧ b = b' ∧ c = c' := by omega
theorem Lgr.Good.small (G : S.Good) (hx : x ∈ S.L) : (1 ≤ x.cr ∧ x.cr ≤ 16) ∧ (1 ≤ x.db ∧ x.db ≤ 16) := ⟨G.par1 _ (G.ok x hx).cr, G.par1 _ (G.ok x hx).db⟩
theorem Lgr.Good.rank_at (G : S.Good) (hx : x ∈ S.L) (h1 : 0 ≤ y.cr ∧ y.cr < 256) (h2 : 0 ≤ y.db ∧ y.db < 256) : x.rank = y.rank ↔ x.at y.cr y.db y.cu = true := by
  rw [Lin.at_iff]
  have := G.small hx
  constructor
  · intro h
    exact rank_inj (by omega) (by omega) h1 h2 h
  · rintro ⟨h1, h2, h3⟩
    unfold Lin.rank
    rw [h1, h2, h3]
theorem pw_inj : ∀ {L : List Lin}, L.Pairwise (fun x y => x.rank < y.rank) → ∀ {x y : Lin}, x ∈ L → y ∈ L → x.rank = y.rank → x = y
  | [], _, _, _, h, _, _ => by cases h
  | a :: L, h, x, y, hx, hy, e => by
    have h1 := List.pairwise_cons.1 h
    rcases List.mem_cons.1 hx with hx | hx <;> rcases List.mem_cons.1 hy with hy | hy
    · rw [hx, hy]
    · have := h1.1 _ hy; rw [hx] at e; omega
    · have := h1.1 _ hx; rw [hy] at e; omega
    · exact pw_inj h1.2 hx hy e
theorem Lgr.Good.uniq (G : S.Good) (hx : x ∈ S.L) (hy : y ∈ S.L) (h : x.rank = y.rank) : x = y := pw_inj G.ord hx hy h
/-- Two lists in order that have the same lines are the same. -/
theorem sorted_ext : ∀ {L M : List Lin}, L.Pairwise (fun x y => x.rank < y.rank) → M.Pairwise (fun x y => x.rank < y.rank) → (∀ z, z ∈ L ↔ z ∈ M) → L = M
  | [], [], _, _, _ => rfl
  | [], b :: M, _, _, h => by have := (h b).2 (List.mem_cons_self ..); cases this
  | a :: L, [], _, _, h => by have := (h a).1 (List.mem_cons_self ..); cases this
  | a :: L, b :: M, hL, hM, h => by
    have h1 := List.pairwise_cons.1 hL
    have h2 := List.pairwise_cons.1 hM
    have e : a = b := by
      rcases List.mem_cons.1 ((h a).1 (List.mem_cons_self ..)) with e | ha
      · exact e
      · rcases List.mem_cons.1 ((h b).2 (List.mem_cons_self ..)) with e | hb
        · exact e.symm
        · have := h1.1 _ hb; have := h2.1 _ ha; omega
    subst e
    congr 1
    refine sorted_ext h1.2 h2.2 fun z => ⟨fun hz => ?_, fun hz => ?_⟩
    · rcases List.mem_cons.1 ((h z).1 (List.mem_cons_of_mem _ hz)) with e | hz'
      · subst e; have := h1.1 _ hz; omega
      · exact hz'
    · rcases List.mem_cons.1 ((h z).2 (List.mem_cons_of_mem _ hz)) with e | hz'
      · subst e; have := h2.1 _ hz; omega
      · exact hz'
theorem lineOf_mem {L : List Lin} (h : lineOf L cr db cu = some x) : x ∈ L ∧ x.cr = cr ∧ x.db = db ∧ x.cu = cu := by
  refine ⟨List.mem_of_find?_eq_some h, ?_⟩
  have := List.find?_some h
  exact Lin.at_iff.1 this
theorem lineOf_none {L : List Lin} (h : lineOf L cr db cu = none) : ∀ x ∈ L, x.at cr db cu = false := by
  intro x hx
  have := List.find?_eq_none.1 h x hx
  simpa using this
theorem Lgr.Good.lineOf_iff (G : S.Good) : lineOf S.L cr db cu = some x ↔ x ∈ S.L ∧ x.at cr db cu = true := by
  constructor
  · intro h
    exact ⟨(lineOf_mem h).1, Lin.at_iff.2 (lineOf_mem h).2⟩
  · rintro ⟨hx, ha⟩
    cases h : lineOf S.L cr db cu with
    | none => rw [lineOf_none h x hx] at ha; cases ha
    | some y =>
      obtain ⟨hy, hy2⟩ := lineOf_mem h
      have hx2 := Lin.at_iff.1 ha
      congr 1
      refine G.uniq hy hx ?_
      unfold Lin.rank
      rw [hy2.1, hy2.2.1, hy2.2.2, hx2.1, hx2.2.1, hx2.2.2]
theorem isLine_iff {L : List Lin} : isLine L cr db cu = true ↔ ∃ x ∈ L, x.at cr db cu = true := by
  unfold isLine lineOf
  rw [List.find?_isSome]
theorem isLine_not {L : List Lin} : isLine L cr db cu = false ↔ ∀ x ∈ L, x.at cr db cu = false := by
  rw [Bool.eq_false_iff, ne_eq, isLine_iff]
  simp
theorem Lgr.Good.vals (G : S.Good) (hx : x ∈ S.L) : lineOf S.L x.cr x.db x.cu = some x ∧ limOf S.L x.cr x.db x.cu = x.lim ∧ debOf S.L x.cr x.db x.cu = x.deb ∧ isLine S.L x.cr x.db x.cu = true := by
  have h : lineOf S.L x.cr x.db x.cu = some x := G.lineOf_iff.2 ⟨hx, Lin.at_iff.2 ⟨rfl, rfl, rfl⟩⟩
  exact ⟨h, by simp [limOf, h], by simp [debOf, h], by simp [isLine, h]⟩
theorem Lgr.Good.noLine (h : isLine S.L cr db cu = false) : lineOf S.L cr db cu = none ∧ limOf S.L cr db cu = 0 ∧ debOf S.L cr db cu = 0 := by
  have h : lineOf S.L cr db cu = none := by unfold isLine at h; simpa using h
  exact ⟨h, by simp [limOf, h], by simp [debOf, h]⟩
/-- There is such a line; or there is none. -/
theorem Lgr.Good.split (G : S.Good) (cr db cu : Int) : (∃ x ∈ S.L, x.cr = cr ∧ x.db = db ∧ x.cu = cu ∧ lineOf S.L cr db cu = some x ∧ limOf S.L cr db cu = x.lim ∧ debOf S.L cr db cu = x.deb ∧ isLine S.L cr db cu = true) ∨
    ((∀ x ∈ S.L, x.at cr db cu = false) ∧ lineOf S.L cr db cu = none ∧ limOf S.L cr db cu = 0 ∧ debOf S.L cr db cu = 0 ∧ isLine S.L cr db cu = false) := by
  cases h : isLine S.L cr db cu with
  | true =>
    obtain ⟨x, hx, ha⟩ := isLine_iff.1 h
    obtain ⟨rfl, rfl, rfl⟩ := Lin.at_iff.1 ha
    have := G.vals hx
    exact .inl ⟨x, hx, rfl, rfl, rfl, this.1, this.2.1, this.2.2.1, rfl⟩
  | false => exact .inr ⟨isLine_not.1 h, (noLine h).1, (noLine h).2.1, (noLine h).2.2, rfl⟩
theorem Lgr.Good.nums (G : S.Good) (cr db cu : Int) : 0 ≤ debOf S.L cr db cu ∧ debOf S.L cr db cu ≤ limOf S.L cr db cu ∧ limOf S.L cr db cu ≤ 1099511627776 := by
  rcases G.split cr db cu with ⟨x, hx, _, _, _, _, h2, h3, _⟩ | ⟨_, _, h2, h3, _⟩
  · have := G.ok x hx
    rw [h2, h3]
    exact ⟨this.deb.1, this.deb.2, this.lim.2⟩
  · rw [h2, h3]; omega
theorem Lgr.Good.noSelf (G : S.Good) (p cu : Int) : isLine S.L p p cu = false := by
  rw [isLine_not]
  intro x hx
  rw [Lin.at_not]
  rintro ⟨h1, h2, _⟩
  exact (G.ok x hx).ne (h1.trans h2.symm)
theorem Lgr.Good.inP (G : S.Good) (h : isLine S.L cr db cu = true) : cr ∈ S.P ∧ db ∈ S.P := by
  obtain ⟨x, hx, ha⟩ := isLine_iff.1 h
  obtain ⟨rfl, rfl, rfl⟩ := Lin.at_iff.1 ha
  exact ⟨(G.ok x hx).cr, (G.ok x hx).db⟩
theorem Lgr.Good.room (G : S.Good) (f t c : Int) : 0 ≤ roomOf S f t c ∧ roomOf S f t c ≤ 2199023255552 := by
  have h1 := G.nums f t c
  have h2 := G.nums t f c
  unfold roomOf
  omega
/-- The room of the chapter: none of one's own, nor of who is not there. -/
theorem Lgr.Good.room0 (G : S.Good) {f t : Int} (c : Int) (h : f = t ∨ f ∉ S.P ∨ t ∉ S.P) : roomOf S f t c = 0 := by
  have h1 : isLine S.L f t c = false := by
    rcases h with rfl | h | h
    · exact G.noSelf f c
    · cases hl : isLine S.L f t c with
      | false => rfl
      | true => exact absurd (G.inP hl).1 h
    · cases hl : isLine S.L f t c with
      | false => rfl
      | true => exact absurd (G.inP hl).2 h
  have h2 : isLine S.L t f c = false := by
    rcases h with rfl | h | h
    · exact G.noSelf f c
    · cases hl : isLine S.L t f c with
      | false => rfl
      | true => exact absurd (G.inP hl).2 h
    · cases hl : isLine S.L t f c with
      | false => rfl
      | true => exact absurd (G.inP hl).1 h
  unfold roomOf
  rw [(noLine h1).2.2, (noLine h2).2.1, (noLine h2).2.2]
  rfl

/-! Keeping. -/
theorem insP_mem {P : List Int} {p q : Int} : q ∈ insP P p ↔ q ∈ P ∨ q = p := by
  unfold insP
  simp only [List.mem_append, List.mem_filter, List.mem_cons, decide_eq_true_eq]
  constructor
  · rintro (⟨h, _⟩ | rfl | ⟨h, _⟩)
    · exact .inl h
    · exact .inr rfl
    · exact .inl h
  · rintro (h | rfl)
    · rcases Int.lt_trichotomy q p with h' | rfl | h'
      · exact .inl ⟨h, h'⟩
      · exact .inr (.inl rfl)
      · exact .inr (.inr ⟨h, h'⟩)
    · exact .inr (.inl rfl)
theorem insP_sorted {P : List Int} (h : P.Pairwise (· < ·)) (p : Int) : (insP P p).Pairwise (· < ·) := by
  unfold insP
  rw [List.pairwise_append, List.pairwise_cons]
  refine ⟨h.filter _, ⟨?_, h.filter _⟩, ?_⟩
  · intro q hq
    have := (List.mem_filter.1 hq).2
    simpa using this
  · intro a ha b hb
    have h1 : a < p := by simpa using (List.mem_filter.1 ha).2
    rcases List.mem_cons.1 hb with rfl | hb
    · exact h1
    · have h2 : p < b := by simpa using (List.mem_filter.1 hb).2
      omega
theorem openE_ok {p : Int} (h : openE S p = 0) : (1 ≤ p ∧ p ≤ 16) ∧ p ∉ S.P := by
  unfold openE at h
  split at h
  · omega
  · split at h
    · omega
    · exact ⟨by omega, by assumption⟩
theorem Lgr.Good.open (G : S.Good) (p : Int) : (openS S p).Good := by
  unfold openS
  split
  · rename_i h
    obtain ⟨h1, h2⟩ := openE_ok h
    refine ⟨insP_sorted G.par p, fun q hq => ?_, G.ord, fun x hx => ?_, G.few⟩
    · rcases insP_mem.1 hq with hq | rfl
      · exact G.par1 q hq
      · exact h1
    · have := G.ok x hx
      exact ⟨insP_mem.2 (.inl this.cr), insP_mem.2 (.inl this.db), this.ne, this.cu, this.lim, this.deb⟩
  · exact G
theorem setL_mem {L : List Lin} {x z : Lin} : z ∈ setL L x ↔ (z ∈ L ∧ z.rank ≠ x.rank) ∨ (x.lim ≠ 0 ∧ z = x) := by
  unfold setL
  simp only [List.mem_append, List.mem_filter, decide_eq_true_eq]
  constructor
  · rintro ((⟨h, h'⟩ | h) | ⟨h, h'⟩)
    · exact .inl ⟨h, by omega⟩
    · split at h
      · cases h
      · exact .inr ⟨by assumption, by simpa using h⟩
    · exact .inl ⟨h, by omega⟩
  · rintro (⟨h, h'⟩ | ⟨h, rfl⟩)
    · rcases Int.lt_or_gt_of_ne h' with h' | h'
      · exact .inl (.inl ⟨h, h'⟩)
      · exact .inr ⟨h, h'⟩
    · exact .inl (.inr (by rw [if_neg h]; simp))
theorem setL_sorted {L : List Lin} (h : L.Pairwise (fun x y => x.rank < y.rank)) (x : Lin) : (setL L x).Pairwise (fun x y => x.rank < y.rank) := by
  unfold setL
  rw [List.pairwise_append, List.pairwise_append]
  refine ⟨⟨h.filter _, ?_, ?_⟩, h.filter _, ?_⟩
  · split <;> simp
  · intro a ha b hb
    have h1 : a.rank < x.rank := by simpa using (List.mem_filter.1 ha).2
    split at hb
    · cases hb
    · obtain rfl : b = x := by simpa using hb
      exact h1
  · intro a ha b hb
    have h2 : x.rank < b.rank := by simpa using (List.mem_filter.1 hb).2
    rcases List.mem_append.1 ha with ha | ha
    · have h1 : a.rank < x.rank := by simpa using (List.mem_filter.1 ha).2
      omega
    · split at ha
      · cases ha
      · obtain rfl : a = x := by simpa using ha
        exact h2
theorem filter3_len (L : List Lin) (r : Int) : (L.filter (fun y => decide (y.rank < r))).length + (L.filter (fun y => decide (r < y.rank))).length + (L.filter (fun y => decide (y.rank = r))).length = L.length := by
  induction L with
  | nil => rfl
  | cons a L ih =>
    simp only [List.filter_cons]
    rcases Int.lt_trichotomy a.rank r with h | h | h
    · simp [h, show ¬ r < a.rank by omega, show ¬ a.rank = r by omega]; omega
    · simp [h]; omega
    · simp [h, show ¬ a.rank < r by omega, show ¬ a.rank = r by omega]; omega
theorem setL_len (L : List Lin) (x : Lin) : (setL L x).length + (L.filter (fun y => decide (y.rank = x.rank))).length = L.length + (if x.lim = 0 then 0 else 1) := by
  have := filter3_len L x.rank
  unfold setL
  simp only [List.length_append]
  split
  · simp; omega
  · simp; omega
theorem trustE_ok {lim : Int} (h : trustE S cr db cu lim = 0) : ¬ badEnds cr db cu ∧ 0 ≤ lim ∧ lim ≤ 1099511627776 ∧ cr ∈ S.P ∧ db ∈ S.P ∧ debOf S.L cr db cu ≤ lim ∧ ¬ (isLine S.L cr db cu = false ∧ 0 < lim ∧ 64 ≤ S.L.length) := by
  unfold trustE at h
  split at h
  · omega
  · rename_i h1
    split at h
    · omega
    · rename_i h2
      split at h
      · omega
      · split at h
        · omega
        · rename_i h4
          simp only [not_or, Decidable.not_not] at h1 h2
          exact ⟨h1.1, by omega, by omega, h2.1, h2.2, by omega, h4⟩
theorem Lgr.Good.trust (G : S.Good) (cr db cu lim : Int) : (trustS S cr db cu lim).Good := by
  unfold trustS
  split
  · rename_i h
    obtain ⟨h1, h2, h3, h4, h5, h6, h7⟩ := trustE_ok h
    have hc := G.par1 cr h4
    have hd := G.par1 db h5
    have hn := G.nums cr db cu
    refine ⟨G.par, G.par1, setL_sorted G.ord _, fun x hx => ?_, ?_⟩
    · rcases setL_mem.1 hx with ⟨hx, _⟩ | ⟨hl, rfl⟩
      · exact G.ok x hx
      · unfold badEnds at h1
        exact ⟨h4, h5, (by simp only; omega), (by simp only; omega), (by simp only at *; omega), (by simp only at *; omega)⟩
    · have hlen := setL_len S.L ⟨cr, db, cu, lim, debOf S.L cr db cu⟩
      have hf := G.few
      cases hl : isLine S.L cr db cu with
      | false =>
        simp only at hlen ⊢
        by_cases h0 : lim = 0
        · rw [if_pos h0] at hlen; omega
        · rw [if_neg h0] at hlen
          have : ¬ (64 ≤ S.L.length) := fun h' => h7 ⟨hl, by omega, h'⟩
          omega
      | true =>
        obtain ⟨x, hx, ha⟩ := isLine_iff.1 hl
        have hr : x.rank = (⟨cr, db, cu, lim, debOf S.L cr db cu⟩ : Lin).rank := (G.rank_at hx (by simp only; omega) (by simp only; omega)).2 ha
        have : 0 < (S.L.filter (fun y => decide (y.rank = (⟨cr, db, cu, lim, debOf S.L cr db cu⟩ : Lin).rank))).length := List.length_pos_of_mem (List.mem_filter.2 ⟨hx, by simpa using hr⟩)
        simp only at hlen this ⊢
        split at hlen <;> omega
  · exact G
theorem addL_len (L : List Lin) (cr db cu n : Int) : (addL L cr db cu n).length = L.length := by simp [addL]
theorem addL_ranks (L : List Lin) (cr db cu n : Int) : (addL L cr db cu n).map (·.rank) = L.map (·.rank) := by
  unfold addL
  rw [List.map_map]
  refine List.map_congr_left fun x _ => ?_
  simp only [Function.comp]
  split <;> rfl
theorem addL_mem {L : List Lin} {n : Int} {z : Lin} (h : z ∈ addL L cr db cu n) : ∃ x ∈ L, z.cr = x.cr ∧ z.db = x.db ∧ z.cu = x.cu ∧ z.lim = x.lim ∧ z.deb = x.deb + (if x.at cr db cu then n else 0) := by
  obtain ⟨x, hx, rfl⟩ := List.mem_map.1 h
  refine ⟨x, hx, ?_⟩
  by_cases ha : x.at cr db cu = true
  · simp [ha]
  · simp [ha]
theorem Lgr.Good.add (G : S.Good) {n : Int} (h0 : 0 ≤ debOf S.L cr db cu + n) (h1 : debOf S.L cr db cu + n ≤ limOf S.L cr db cu) : (⟨S.P, addL S.L cr db cu n⟩ : Lgr).Good := by
  refine ⟨G.par, G.par1, ?_, fun z hz => ?_, by rw [addL_len]; exact G.few⟩
  · have : ((addL S.L cr db cu n).map (·.rank)).Pairwise (· < ·) := by rw [addL_ranks, List.pairwise_map]; exact G.ord
    rwa [List.pairwise_map] at this
  · obtain ⟨x, hx, e1, e2, e3, e4, e5⟩ := addL_mem hz
    have ok := G.ok x hx
    refine ⟨by rw [e1]; exact ok.cr, by rw [e2]; exact ok.db, by rw [e1, e2]; exact ok.ne, by rw [e3]; exact ok.cu, by rw [e4]; exact ok.lim, ?_⟩
    rw [e4, e5]
    split
    · rename_i ha
      obtain ⟨rfl, rfl, rfl⟩ := Lin.at_iff.1 ha
      have := G.vals hx
      rw [this.2.2.1] at h0 h1
      rw [this.2.1] at h1
      exact ⟨h0, h1⟩
    · have := ok.deb; omega
theorem lineOf_add (L : List Lin) (cr db cu n a b c : Int) : lineOf (addL L cr db cu n) a b c = (lineOf L a b c).map fun x => if x.at cr db cu then { x with deb := x.deb + n } else x := by
  unfold lineOf addL
  rw [List.find?_map]
  congr 1
  refine congrArg (fun f => List.find? f L) ?_
  funext x
  simp only [Function.comp]
  split <;> rfl
theorem limOf_add (L : List Lin) (cr db cu n a b c : Int) : limOf (addL L cr db cu n) a b c = limOf L a b c := by
  unfold limOf
  rw [lineOf_add, Option.map_map]
  congr 2
  funext x
  simp only [Function.comp]
  split <;> rfl
theorem isLine_add (L : List Lin) (cr db cu n a b c : Int) : isLine (addL L cr db cu n) a b c = isLine L a b c := by
  unfold isLine
  rw [lineOf_add]
  simp
theorem debOf_add (L : List Lin) (cr db cu n a b c : Int) : debOf (addL L cr db cu n) a b c = debOf L a b c + (if isLine L a b c = true ∧ a = cr ∧ b = db ∧ c = cu then n else 0) := by
  unfold debOf
  rw [lineOf_add]
  cases h : lineOf L a b c with
  | none => simp [isLine, h]
  | some x =>
    obtain ⟨_, rfl, rfl, rfl⟩ := lineOf_mem h
    simp only [Option.map_some, Option.getD_some, isLine, h, Option.isSome_some, true_and]
    by_cases ha : x.at cr db cu = true
    · rw [if_pos ha, if_pos (Lin.at_iff.1 ha)]
    · rw [if_neg ha, if_neg (fun h' => ha (Lin.at_iff.2 h'))]; simp
theorem addL_zero (L : List Lin) (cr db cu : Int) : addL L cr db cu 0 = L := by
  unfold addL
  conv => rhs; rw [← List.map_id L]
  refine List.map_congr_left fun x _ => ?_
  simp
theorem addL_none {L : List Lin} {n : Int} (h : isLine L cr db cu = false) : addL L cr db cu n = L := by
  unfold addL
  conv => rhs; rw [← List.map_id L]
  refine List.map_congr_left fun x hx => ?_
  simp [isLine_not.1 h x hx]
/-- The parts of a push. -/
theorem Lgr.Good.push0 (G : S.Good) {f t c n : Int} (h : pushE S f t c n = 0) : 1 ≤ n ∧ n ≤ roomOf S f t c ∧ f ≠ t ∧ f ∈ S.P ∧ t ∈ S.P := by
  unfold pushE at h
  split at h
  · omega
  · split at h
    · omega
    · refine ⟨by omega, by omega, ?_, ?_, ?_⟩
      · intro e; have := G.room0 c (.inl e); omega
      · refine Decidable.byContradiction fun e => ?_
        have := G.room0 (t := t) c (.inr (.inl e)); omega
      · refine Decidable.byContradiction fun e => ?_
        have := G.room0 (f := f) c (.inr (.inr e)); omega
theorem Lgr.Good.pushA (G : S.Good) {f t c n : Int} (h : pushE S f t c n = 0) : (⟨S.P, addL S.L f t c (-fallOf S f t c n)⟩ : Lgr).Good := by
  obtain ⟨h1, h2, h3, _⟩ := G.push0 h
  have hn := G.nums f t c
  refine G.add ?_ ?_
  · unfold fallOf; omega
  · unfold fallOf; omega
theorem Lgr.Good.push (G : S.Good) (f t c n : Int) : (pushS S f t c n).Good := by
  unfold pushS
  split
  · rename_i h
    obtain ⟨h1, h2, h3, _⟩ := G.push0 h
    have hn := G.nums t f c
    have hn2 := G.nums f t c
    refine (G.pushA h).add ?_ ?_
    · simp only [debOf_add]
      rw [if_neg (fun e => h3 e.2.1.symm)]
      unfold fallOf; omega
    · simp only [debOf_add, limOf_add]
      rw [if_neg (fun e => h3 e.2.1.symm)]
      unfold fallOf roomOf at *; omega
  · exact G
theorem Lgr.Good.forg (G : S.Good) (cr db cu n : Int) : (forgS S cr db cu n).Good := by
  unfold forgS
  split
  · rename_i h
    have hn := G.nums cr db cu
    unfold forgE at h
    split at h
    · omega
    · split at h
      · omega
      · split at h
        · omega
        · refine G.add ?_ ?_ <;> omega
  · exact G
end
end Go.Proofs.Ytgobnamhdkbbeaa

/- A ledger's map: its lines as pairs; what a look, a put, a delete make of it. -/
namespace Go.Proofs.Ytgobnamhdkbbeaa
open Go.RowKit
abbrev ends (cr : Int) (db : Int) (cu : Int) : Array Value := #[.int .u8 cr, .int .u8 db, .int .u8 cu]
section
variable (cr : Int) (db : Int) (cu : Int)
theorem ends_sz : (ends cr db cu).size = 3 := rfl
theorem ends_g0 : (ends cr db cu)[0]? = some (.int .u8 cr) := rfl
theorem ends_s0 (v : Int) : (ends cr db cu).setIfInBounds 0 (.int .u8 v) = ends v db cu := rfl
theorem ends_g1 : (ends cr db cu)[1]? = some (.int .u8 db) := rfl
theorem ends_s1 (v : Int) : (ends cr db cu).setIfInBounds 1 (.int .u8 v) = ends cr v cu := rfl
theorem ends_g2 : (ends cr db cu)[2]? = some (.int .u8 cu) := rfl
theorem ends_s2 (v : Int) : (ends cr db cu).setIfInBounds 2 (.int .u8 v) = ends cr db v := rfl
end
abbrev owe (lim : Int) (deb : Int) : Array Value := #[.int .i64 lim, .int .i64 deb]
section
variable (lim : Int) (deb : Int)
theorem owe_sz : (owe lim deb).size = 2 := rfl
theorem owe_g0 : (owe lim deb)[0]? = some (.int .i64 lim) := rfl
theorem owe_s0 (v : Int) : (owe lim deb).setIfInBounds 0 (.int .i64 v) = owe v deb := rfl
theorem owe_g1 : (owe lim deb)[1]? = some (.int .i64 deb) := rfl
theorem owe_s1 (v : Int) : (owe lim deb).setIfInBounds 1 (.int .i64 v) = owe lim v := rfl
end
abbrev keyL (cr db cu : Int) : Value := .agg (ends cr db cu)
abbrev valL (lim deb : Int) : Value := .agg (owe lim deb)
def kvL (x : Lin) : Value × Value := (keyL x.cr x.db x.cu, valL x.lim x.deb)
def prs (L : List Lin) : List (Value × Value) := L.map kvL
theorem prs_len (L : List Lin) : (prs L).length = L.length := by simp [prs]
theorem keyL_inj {a b c a' b' c' : Int} : keyL a b c = keyL a' b' c' ↔ a = a' ∧ b = b' ∧ c = c' := by simp [keyL]
section
variable {S : Lgr} {x : Lin} {cr db cu : Int}
theorem look_line (G : S.Good) (cr db cu : Int) : Look (prs S.L) (keyL cr db cu) (valL 0 0) (isLine S.L cr db cu) (valL (limOf S.L cr db cu) (debOf S.L cr db cu)) := by
  rcases G.split cr db cu with ⟨x, hx, e1, e2, e3, _, h2, h3, h4⟩ | ⟨hn, _, h2, h3, h4⟩
  · rw [h2, h3, h4]
    exact .inl ⟨rfl, List.mem_map.2 ⟨x, hx, by rw [kvL, e1, e2, e3]⟩⟩
  · rw [h2, h3, h4]
    refine .inr ⟨rfl, rfl, fun e he hk => ?_⟩
    obtain ⟨x, hx, rfl⟩ := List.mem_map.1 he
    have := hn x hx
    rw [Lin.at_not] at this
    exact this (keyL_inj.1 hk)
def Small (x : Lin) : Prop := (0 ≤ x.cr ∧ x.cr < 256) ∧ (0 ≤ x.db ∧ x.db < 256)
theorem Lgr.Good.smalls (G : S.Good) : ∀ x ∈ S.L, Small x := fun x hx => by
  have := G.small hx
  unfold Small; omega
theorem sorted_nodup {L : List Lin} (h : L.Pairwise (fun x y => x.rank < y.rank)) : L.Nodup := h.imp (fun h e => by rw [e] at h; omega)
def restL (L : List Lin) (x : Lin) : List Lin := L.filter (fun y => decide (y.rank ≠ x.rank))
theorem restL_mem {L : List Lin} {z : Lin} : z ∈ restL L x ↔ z ∈ L ∧ z.rank ≠ x.rank := by simp [restL]
theorem without {L : List Lin} (ho : L.Pairwise (fun x y => x.rank < y.rank)) (hs : ∀ y ∈ L, Small y) (hx : Small x) :
    (∀ e ∈ prs (restL L x), e.1 ≠ keyL x.cr x.db x.cu) ∧ ((prs L).Perm (prs (restL L x)) ∨ ∃ v0, (prs L).Perm ((keyL x.cr x.db x.cu, v0) :: prs (restL L x))) := by
  refine ⟨fun e he hk => ?_, ?_⟩
  · obtain ⟨y, hy, rfl⟩ := List.mem_map.1 he
    obtain ⟨h1, h2, h3⟩ := keyL_inj.1 hk
    refine (restL_mem.1 hy).2 ?_
    unfold Lin.rank
    rw [h1, h2, h3]
  · by_cases h : ∃ y ∈ L, y.rank = x.rank
    · obtain ⟨y, hy, hr⟩ := h
      have hsy := hs y hy
      unfold Small at hsy hx
      obtain ⟨e1, e2, e3⟩ := rank_inj hsy.1 hsy.2 hx.1 hx.2 hr
      refine .inr ⟨valL y.lim y.deb, ?_⟩
      have hp : L.Perm (y :: restL L x) := by
        refine (List.perm_ext_iff_of_nodup (sorted_nodup ho) (List.nodup_cons.2 ⟨fun h => (restL_mem.1 h).2 hr, (sorted_nodup ho).filter _⟩)).2 fun z => ?_
        rw [List.mem_cons, restL_mem]
        constructor
        · intro hz
          by_cases e : z.rank = x.rank
          · exact .inl (pw_inj ho hz hy (e.trans hr.symm))
          · exact .inr ⟨hz, e⟩
        · rintro (rfl | h)
          · exact hy
          · exact h.1
      have := hp.map kvL
      rw [List.map_cons] at this
      rw [show kvL y = (keyL x.cr x.db x.cu, valL y.lim y.deb) by rw [kvL, e1, e2, e3]] at this
      exact this
    · refine .inl ?_
      have : restL L x = L := List.filter_eq_self.2 fun y hy => by
        simp only [decide_eq_true_eq]
        exact fun e => h ⟨y, hy, e⟩
      rw [this]
theorem setL_perm {L : List Lin} (ho : L.Pairwise (fun x y => x.rank < y.rank)) (h : x.lim ≠ 0) : (setL L x).Perm (x :: restL L x) := by
  refine (List.perm_ext_iff_of_nodup (sorted_nodup (setL_sorted ho x)) (List.nodup_cons.2 ⟨fun h => (restL_mem.1 h).2 rfl, (sorted_nodup ho).filter _⟩)).2 fun z => ?_
  rw [setL_mem, List.mem_cons, restL_mem]
  constructor
  · rintro (h' | ⟨_, rfl⟩)
    · exact .inr h'
    · exact .inl rfl
  · rintro (rfl | h')
    · exact .inr ⟨h, rfl⟩
    · exact .inl h'
theorem setL_perm0 {L : List Lin} (ho : L.Pairwise (fun x y => x.rank < y.rank)) (h : x.lim = 0) : (setL L x).Perm (restL L x) := by
  refine (List.perm_ext_iff_of_nodup (sorted_nodup (setL_sorted ho x)) ((sorted_nodup ho).filter _)).2 fun z => ?_
  show _ ↔ z ∈ restL L x
  rw [setL_mem, restL_mem]
  constructor
  · rintro (h' | ⟨h', _⟩)
    · exact h'
    · exact absurd h h'
  · exact .inl
theorem put_set {L : List Lin} (ho : L.Pairwise (fun x y => x.rank < y.rank)) (hs : ∀ y ∈ L, Small y) (hx : Small x) (h : x.lim ≠ 0) : PutM (prs L) (keyL x.cr x.db x.cu) (valL x.lim x.deb) (prs (setL L x)) :=
  ⟨prs (restL L x), (without ho hs hx).1, (without ho hs hx).2, (setL_perm ho h).map kvL⟩
theorem del_set {L : List Lin} (ho : L.Pairwise (fun x y => x.rank < y.rank)) (hs : ∀ y ∈ L, Small y) (hx : Small x) (h : x.lim = 0) : DelM (prs L) (keyL x.cr x.db x.cu) (prs (setL L x)) :=
  ⟨prs (restL L x), (without ho hs hx).1, (without ho hs hx).2, (setL_perm0 ho h).map kvL⟩
theorem addL_sorted {L : List Lin} (ho : L.Pairwise (fun x y => x.rank < y.rank)) (n : Int) : (addL L cr db cu n).Pairwise (fun x y => x.rank < y.rank) := by
  have : ((addL L cr db cu n).map (·.rank)).Pairwise (· < ·) := by rw [addL_ranks, List.pairwise_map]; exact ho
  rwa [List.pairwise_map] at this
/-- More of a debt: a line set anew. -/
theorem Lgr.Good.add_set (G : S.Good) (hl : isLine S.L cr db cu = true) (n : Int) : addL S.L cr db cu n = setL S.L ⟨cr, db, cu, limOf S.L cr db cu, debOf S.L cr db cu + n⟩ := by
  obtain ⟨x, hx, ha⟩ := isLine_iff.1 hl
  obtain ⟨rfl, rfl, rfl⟩ := Lin.at_iff.1 ha
  obtain ⟨_, h2, h3, _⟩ := G.vals hx
  rw [h2, h3]
  have hlim : x.lim ≠ 0 := by have := (G.ok x hx).lim; omega
  refine sorted_ext (addL_sorted G.ord n) (setL_sorted G.ord _) fun z => ?_
  rw [setL_mem]
  unfold addL
  rw [List.mem_map]
  constructor
  · rintro ⟨y, hy, rfl⟩
    by_cases hya : y.at x.cr x.db x.cu = true
    · rw [if_pos hya]
      have e := Lin.at_iff.1 hya
      have : y = x := G.uniq hy hx (by unfold Lin.rank; rw [e.1, e.2.1, e.2.2])
      subst this
      exact .inr ⟨hlim, rfl⟩
    · rw [if_neg hya]
      refine .inl ⟨hy, fun e => hya ?_⟩
      have : y = x := G.uniq hy hx e
      subst this
      exact ha
  · rintro (⟨hz, hr⟩ | ⟨_, rfl⟩)
    · refine ⟨z, hz, ?_⟩
      rw [if_neg]
      intro hza
      have e := Lin.at_iff.1 hza
      exact hr (by unfold Lin.rank; rw [e.1, e.2.1, e.2.2])
    · exact ⟨x, hx, by rw [if_pos ha]⟩
end
end Go.Proofs.Ytgobnamhdkbbeaa

/- Positions and totals of a ledger's lines. -/
namespace Go.Proofs.Ytgobnamhdkbbeaa
section
variable {S : Lgr} {L : List Lin} {cr db cu : Int}
def posX (x : Lin) (p c : Int) : Int := (if x.cu = c ∧ x.cr = p then x.deb else 0) - (if x.cu = c ∧ x.db = p then x.deb else 0)
theorem posL_cons (x : Lin) (L : List Lin) (p c : Int) : posL (x :: L) p c = posX x p c + posL L p c := by simp [posL, posX]
theorem posL_snoc (L : List Lin) (x : Lin) (p c : Int) : posL (L ++ [x]) p c = posL L p c + posX x p c := by simp [posL, posX]
theorem totL_snoc (L : List Lin) (x : Lin) (c : Int) : totL (L ++ [x]) c = totL L c + (if x.cu = c then x.deb else 0) := by simp [totL]
theorem posL_bound (h : ∀ x ∈ L, 0 ≤ x.deb ∧ x.deb ≤ 1099511627776) (p c : Int) : -(1099511627776 * (L.length : Int)) ≤ posL L p c ∧ posL L p c ≤ 1099511627776 * (L.length : Int) := by
  induction L with
  | nil => simp [posL]
  | cons x L ih =>
    have := ih (fun y hy => h y (List.mem_cons_of_mem _ hy))
    have h0 := h x (List.mem_cons_self ..)
    rw [posL_cons]
    simp only [List.length_cons, Int.natCast_add, Int.natCast_one]
    unfold posX
    split <;> split <;> omega
theorem totL_bound (h : ∀ x ∈ L, 0 ≤ x.deb ∧ x.deb ≤ 1099511627776) (c : Int) : 0 ≤ totL L c ∧ totL L c ≤ 1099511627776 * (L.length : Int) := by
  induction L with
  | nil => simp [totL]
  | cons x L ih =>
    have := ih (fun y hy => h y (List.mem_cons_of_mem _ hy))
    have h0 := h x (List.mem_cons_self ..)
    unfold totL at *
    simp only [List.map_cons, List.sum_cons, List.length_cons, Int.natCast_add, Int.natCast_one]
    split <;> omega
theorem Lgr.Good.debs (G : S.Good) : ∀ x ∈ S.L, 0 ≤ x.deb ∧ x.deb ≤ 1099511627776 := fun x hx => by
  have := G.ok x hx
  have h1 := this.lim
  have h2 := this.deb
  omega
theorem Lgr.Good.posB (G : S.Good) (p c : Int) : -70368744177664 ≤ posL S.L p c ∧ posL S.L p c ≤ 70368744177664 := by
  have := posL_bound G.debs p c
  have := G.few
  omega
theorem Lgr.Good.totB (G : S.Good) (c : Int) : 0 ≤ totL S.L c ∧ totL S.L c ≤ 70368744177664 := by
  have := totL_bound G.debs c
  have := G.few
  omega
/-- One of those that are told apart by their ends is counted once. -/
theorem pos_add_aux : ∀ {L : List Lin}, L.Pairwise (fun x y => x.rank < y.rank) → ∀ (n p c : Int), posL (addL L cr db cu n) p c = posL L p c + (if isLine L cr db cu = true ∧ cu = c then (if cr = p then n else 0) - (if db = p then n else 0) else 0)
  | [], _, n, p, c => by simp [addL, isLine, lineOf, posL]
  | x :: L, h, n, p, c => by
    have h1 := List.pairwise_cons.1 h
    have ih := pos_add_aux h1.2 n p c
    have e : addL (x :: L) cr db cu n = (if x.at cr db cu then { x with deb := x.deb + n } else x) :: addL L cr db cu n := rfl
    rw [e, posL_cons, posL_cons]
    by_cases ha : x.at cr db cu = true
    · have hno : isLine L cr db cu = false := by
        rw [isLine_not]
        intro y hy
        rw [Lin.at_not]
        intro e2
        have e1 := Lin.at_iff.1 ha
        have := h1.1 y hy
        unfold Lin.rank at this
        rw [e1.1, e1.2.1, e1.2.2, e2.1, e2.2.1, e2.2.2] at this
        omega
      have hyes : isLine (x :: L) cr db cu = true := isLine_iff.2 ⟨x, List.mem_cons_self .., ha⟩
      rw [addL_none hno, if_pos ha, hyes]
      obtain ⟨e1, e2, e3⟩ := Lin.at_iff.1 ha
      unfold posX
      simp only [e1, e2, e3, true_and]
      split <;> split <;> split <;> simp_all <;> omega
    · have hsame : isLine (x :: L) cr db cu = isLine L cr db cu := by
        unfold isLine lineOf
        rw [List.find?_cons_of_neg (by simpa using ha)]
      rw [if_neg ha, ih, hsame]
      omega
theorem Lgr.Good.pos_add (G : S.Good) (n p c : Int) : posL (addL S.L cr db cu n) p c = posL S.L p c + (if isLine S.L cr db cu = true ∧ cu = c then (if cr = p then n else 0) - (if db = p then n else 0) else 0) := pos_add_aux G.ord n p c
/-- All positions up to some party come to 0, where all ends are below. -/
def sumPos (L : List Lin) (c : Int) : Nat → Int
  | 0 => 0
  | k + 1 => sumPos L c k + posL L k c
theorem sumPos_add (x : Lin) (L : List Lin) (c : Int) : ∀ k, sumPos (x :: L) c k = sumPos [x] c k + sumPos L c k
  | 0 => rfl
  | k + 1 => by
    rw [sumPos, sumPos, sumPos, sumPos_add x L c k, posL_cons, posL_cons]
    simp [posL]; omega
theorem sumPos_one (x : Lin) (c : Int) (h1 : 0 ≤ x.cr) (h2 : 0 ≤ x.db) : ∀ k : Nat, sumPos [x] c k = (if x.cu = c ∧ x.cr < k then x.deb else 0) - (if x.cu = c ∧ x.db < k then x.deb else 0)
  | 0 => by
    have e1 : ¬ (x.cu = c ∧ x.cr < ((0 : Nat) : Int)) := by omega
    have e2 : ¬ (x.cu = c ∧ x.db < ((0 : Nat) : Int)) := by omega
    rw [if_neg e1, if_neg e2]; rfl
  | k + 1 => by
    rw [sumPos, sumPos_one x c h1 h2 k, posL_cons]
    unfold posX
    have e0 : posL [] (k : Int) c = 0 := rfl
    rw [e0]
    by_cases hc : x.cu = c
    · simp only [hc, true_and]
      have e1 : (x.cr < ((k + 1 : Nat) : Int)) ↔ (x.cr < (k : Int) ∨ x.cr = k) := by omega
      have e2 : (x.db < ((k + 1 : Nat) : Int)) ↔ (x.db < (k : Int) ∨ x.db = k) := by omega
      simp only [e1, e2]
      (repeat' split) <;> omega
    · simp [hc]
theorem sumPos_zero (c : Int) (k : Nat) : ∀ (L : List Lin), (∀ x ∈ L, (0 ≤ x.cr ∧ x.cr < k) ∧ (0 ≤ x.db ∧ x.db < k)) → sumPos L c k = 0
  | [], _ => by
    induction k with
    | zero => rfl
    | succ k ih => rw [sumPos, ih (fun x hx => by cases hx)]; rfl
  | x :: L, h => by
    have h0 := h x (List.mem_cons_self ..)
    rw [sumPos_add, sumPos_zero c k L (fun y hy => h y (List.mem_cons_of_mem _ hy)), sumPos_one x c h0.1.1 h0.2.1]
    by_cases hc : x.cu = c
    · rw [if_pos ⟨hc, h0.1.2⟩, if_pos ⟨hc, h0.2.2⟩]; omega
    · rw [if_neg (fun h => hc h.1), if_neg (fun h => hc h.1)]; rfl
theorem Lgr.Good.sum0 (G : S.Good) (c : Int) : sumPos S.L c 20 = 0 := sumPos_zero c 20 _ fun x hx => by
  have := G.small hx
  omega
/-! A push. -/
theorem push_pos (G : S.Good) {f t c n : Int} (h : pushE S f t c n = 0) (p c' : Int) : posL (pushS S f t c n).L p c' = posL S.L p c' + (if c = c' then (if p = t then n else 0) - (if p = f then n else 0) else 0) := by
  obtain ⟨h1, h2, h3, h4, h5⟩ := G.push0 h
  have GA := G.pushA h
  unfold pushS
  rw [if_pos h]
  simp only
  rw [GA.pos_add, G.pos_add]
  simp only [isLine_add]
  have n1 := G.nums f t c
  have n2 := G.nums t f c
  unfold roomOf at h2
  by_cases hc : c = c'
  · subst hc
    simp only [and_true, if_true]
    cases hl : isLine S.L f t c <;> cases hm : isLine S.L t f c
    · have := Lgr.Good.noLine hl; have := Lgr.Good.noLine hm; omega
    · have e1 := (Lgr.Good.noLine hl).2.2
      have : fallOf S f t c n = 0 := by unfold fallOf; rw [e1]; omega
      rw [this]
      simp only [Bool.false_eq_true, if_false, if_true, Int.sub_zero, Int.add_zero, eq_comm (a := p)]
    · have e1 := Lgr.Good.noLine hm
      have : fallOf S f t c n = n := by unfold fallOf; omega
      rw [this]
      simp only [Bool.false_eq_true, if_false, if_true, Int.add_zero, eq_comm (a := p)]
      split <;> split <;> omega
    · simp only [if_true, eq_comm (a := p)]
      generalize fallOf S f t c n = k
      split <;> split <;> omega
  · simp [hc]
theorem push_room (G : S.Good) {f t c n : Int} (h : pushE S f t c n = 0) : roomOf (pushS S f t c n) f t c = roomOf S f t c - n ∧ roomOf (pushS S f t c n) t f c = roomOf S t f c + n := by
  obtain ⟨h1, h2, h3, h4, h5⟩ := G.push0 h
  have n1 := G.nums f t c
  have n2 := G.nums t f c
  unfold pushS
  rw [if_pos h]
  unfold roomOf at h2 ⊢
  simp only [debOf_add, limOf_add, isLine_add]
  have e1 : ¬ (f = t ∧ t = f ∧ True) := fun h => h3 h.1
  have e2 : ¬ (t = f ∧ f = t ∧ True) := fun h => h3 h.2.1
  cases hl : isLine S.L f t c <;> cases hm : isLine S.L t f c
  · have := Lgr.Good.noLine hl; have := Lgr.Good.noLine hm; omega
  · have e3 := Lgr.Good.noLine hl
    have : fallOf S f t c n = 0 := by unfold fallOf; rw [e3.2.2]; omega
    rw [this]
    simp [h3, Ne.symm h3]; omega
  · have e3 := Lgr.Good.noLine hm
    have : fallOf S f t c n = n := by unfold fallOf; omega
    rw [this]
    simp [h3, Ne.symm h3]; omega
  · simp [h3, Ne.symm h3]
    generalize fallOf S f t c n = k
    omega
end
end Go.Proofs.Ytgobnamhdkbbeaa

/- Ledgers as lists: the document's ways to make them (a line set in its place; a party put among others). -/
namespace Go.Proofs.Ytgobnamhdkbbeaa
/-- A line set in its place, going through the lines (put: it is put already, or is none). -/
def setR (x : Lin) : List Lin → Bool → List Lin
  | [], put => if put then [] else [x]
  | y :: ys, put => if y.rank = x.rank then setR x ys put else if put = false ∧ x.rank < y.rank then x :: y :: setR x ys true else y :: setR x ys put
theorem setR_true (x : Lin) : ∀ L : List Lin, setR x L true = L.filter fun y => decide (y.rank ≠ x.rank)
  | [] => rfl
  | y :: ys => by
    unfold setR
    by_cases h : y.rank = x.rank
    · rw [if_pos h, setR_true x ys, List.filter_cons_of_neg (by simp [h])]
    · rw [if_neg h, if_neg (by simp), setR_true x ys, List.filter_cons_of_pos (by simp [h])]
theorem setR_gt (x : Lin) : ∀ L : List Lin, (∀ y ∈ L, x.rank < y.rank) → setR x L false = x :: L
  | [], _ => rfl
  | y :: ys, h => by
    have h1 := h y (List.mem_cons_self ..)
    unfold setR
    rw [if_neg (by omega), if_pos ⟨rfl, h1⟩, setR_true, List.filter_eq_self.2]
    intro z hz
    have := h z (List.mem_cons_of_mem _ hz)
    simp; omega
theorem filter_none {α : Type} {p : α → Bool} {l : List α} (h : ∀ y ∈ l, p y = false) : l.filter p = [] := by
  rw [List.filter_eq_nil_iff]
  intro y hy
  rw [h y hy]
  exact Bool.false_ne_true
theorem setR_false (x : Lin) : ∀ L : List Lin, L.Pairwise (fun x y => x.rank < y.rank) → setR x L false = L.filter (fun y => decide (y.rank < x.rank)) ++ x :: L.filter (fun y => decide (x.rank < y.rank))
  | [], _ => rfl
  | y :: ys, h => by
    have h1 := List.pairwise_cons.1 h
    rcases Int.lt_trichotomy y.rank x.rank with h' | h' | h'
    · unfold setR
      rw [if_neg (by omega), if_neg (by omega), setR_false x ys h1.2, List.filter_cons_of_pos (by simpa using h'), List.filter_cons_of_neg (by simp; omega)]
      rfl
    · unfold setR
      rw [if_pos h', setR_gt x ys (fun z hz => by have := h1.1 z hz; omega), List.filter_cons_of_neg (by simp; omega), List.filter_cons_of_neg (by simp; omega), filter_none (fun z hz => by have := h1.1 z hz; simp; omega), List.filter_eq_self.2 (fun z hz => by have := h1.1 z hz; simp; omega)]
      rfl
    · rw [setR_gt x (y :: ys) (fun z hz => by
        rcases List.mem_cons.1 hz with rfl | hz
        · exact h'
        · have := h1.1 z hz; omega)]
      rw [filter_none (fun z hz => by
        rcases List.mem_cons.1 hz with rfl | hz
        · simp; omega
        · have := h1.1 z hz; simp; omega), List.filter_eq_self.2 (fun z hz => by
        rcases List.mem_cons.1 hz with rfl | hz
        · simp; omega
        · have := h1.1 z hz; simp; omega)]
      rfl
theorem filter_ne_split {r : Int} : ∀ L : List Lin, L.Pairwise (fun x y => x.rank < y.rank) → L.filter (fun y => decide (y.rank ≠ r)) = L.filter (fun y => decide (y.rank < r)) ++ L.filter (fun y => decide (r < y.rank))
  | [], _ => rfl
  | y :: ys, h => by
    have h1 := List.pairwise_cons.1 h
    rcases Int.lt_trichotomy y.rank r with h' | h' | h'
    · rw [List.filter_cons_of_pos (by simp; omega), List.filter_cons_of_pos (by simpa using h'), List.filter_cons_of_neg (by simp; omega), filter_ne_split ys h1.2]; rfl
    · rw [List.filter_cons_of_neg (by simp; omega), List.filter_cons_of_neg (by simp; omega), List.filter_cons_of_neg (by simp; omega), filter_ne_split ys h1.2]
    · rw [List.filter_eq_self.2 (fun z hz => by
        rcases List.mem_cons.1 hz with rfl | hz
        · simp; omega
        · have := h1.1 z hz; simp; omega), filter_none (fun z hz => by
        rcases List.mem_cons.1 hz with rfl | hz
        · simp; omega
        · have := h1.1 z hz; simp; omega), List.filter_eq_self.2 (fun z hz => by
        rcases List.mem_cons.1 hz with rfl | hz
        · simp; omega
        · have := h1.1 z hz; simp; omega)]
      rfl
theorem setR_eq {L : List Lin} (h : L.Pairwise (fun x y => x.rank < y.rank)) (x : Lin) : setR x L (decide (x.lim = 0)) = setL L x := by
  unfold setL
  by_cases h0 : x.lim = 0
  · rw [decide_eq_true h0, setR_true, if_pos h0, filter_ne_split L h]; simp
  · rw [decide_eq_false h0, setR_false x L h, if_neg h0]; simp
/-! A party among others. -/
def openU (P : List Int) (p : Int) : Nat → List Int
  | 0 => []
  | k + 1 => openU P p k ++ (if ((k + 1 : Nat) : Int) = p ∨ ((k + 1 : Nat) : Int) ∈ P then [((k + 1 : Nat) : Int)] else [])
theorem openU_mem (P : List Int) (p q : Int) : ∀ k, q ∈ openU P p k ↔ (1 ≤ q ∧ q ≤ k) ∧ (q = p ∨ q ∈ P)
  | 0 => by simp [openU]; omega
  | k + 1 => by
    rw [openU, List.mem_append, openU_mem P p q k]
    constructor
    · rintro (⟨h, h'⟩ | h)
      · exact ⟨by omega, h'⟩
      · split at h
        · rename_i h'
          obtain rfl : q = ((k + 1 : Nat) : Int) := by simpa using h
          exact ⟨by omega, h'⟩
        · cases h
    · rintro ⟨h, h'⟩
      by_cases e : q = ((k + 1 : Nat) : Int)
      · subst e
        rw [if_pos h']
        exact .inr (by simp)
      · exact .inl ⟨by omega, h'⟩
theorem openU_sorted (P : List Int) (p : Int) : ∀ k, (openU P p k).Pairwise (· < ·)
  | 0 => .nil
  | k + 1 => by
    rw [openU, List.pairwise_append]
    refine ⟨openU_sorted P p k, by split <;> simp, fun a ha b hb => ?_⟩
    have := (openU_mem P p a k).1 ha
    split at hb
    · obtain rfl : b = ((k + 1 : Nat) : Int) := by simpa using hb
      omega
    · cases hb
theorem openU_len (P : List Int) (p : Int) : ∀ k, (openU P p k).length ≤ k
  | 0 => by simp [openU]
  | k + 1 => by
    have := openU_len P p k
    rw [openU, List.length_append]
    split <;> simp <;> omega
theorem sortedI_ext : ∀ {L M : List Int}, L.Pairwise (· < ·) → M.Pairwise (· < ·) → (∀ z, z ∈ L ↔ z ∈ M) → L = M
  | [], [], _, _, _ => rfl
  | [], b :: M, _, _, h => by have := (h b).2 (List.mem_cons_self ..); cases this
  | a :: L, [], _, _, h => by have := (h a).1 (List.mem_cons_self ..); cases this
  | a :: L, b :: M, hL, hM, h => by
    have h1 := List.pairwise_cons.1 hL
    have h2 := List.pairwise_cons.1 hM
    have e : a = b := by
      rcases List.mem_cons.1 ((h a).1 (List.mem_cons_self ..)) with e | ha
      · exact e
      · rcases List.mem_cons.1 ((h b).2 (List.mem_cons_self ..)) with e | hb
        · exact e.symm
        · have := h1.1 _ hb; have := h2.1 _ ha; omega
    subst e
    congr 1
    refine sortedI_ext h1.2 h2.2 fun z => ⟨fun hz => ?_, fun hz => ?_⟩
    · rcases List.mem_cons.1 ((h z).1 (List.mem_cons_of_mem _ hz)) with e | hz'
      · subst e; have := h1.1 _ hz; omega
      · exact hz'
    · rcases List.mem_cons.1 ((h z).2 (List.mem_cons_of_mem _ hz)) with e | hz'
      · subst e; have := h2.1 _ hz; omega
      · exact hz'
theorem openU_eq {S : Lgr} (G : S.Good) {p : Int} (h : openE S p = 0) : openU S.P p 16 = insP S.P p := by
  obtain ⟨h1, h2⟩ := openE_ok h
  refine sortedI_ext (openU_sorted _ _ _) (insP_sorted G.par p) fun q => ?_
  rw [openU_mem, insP_mem]
  constructor
  · rintro ⟨_, h | h⟩
    · exact .inr h
    · exact .inl h
  · rintro (h | rfl)
    · exact ⟨G.par1 q h, .inr h⟩
    · exact ⟨h1, .inl rfl⟩
theorem sortedI_len : ∀ {L : List Int} {lo hi : Int}, L.Pairwise (· < ·) → (∀ z ∈ L, lo ≤ z ∧ z ≤ hi) → (L.length : Int) ≤ max 0 (hi - lo + 1)
  | [], _, _, _, _ => by simp; omega
  | a :: L, lo, hi, h, hb => by
    have h1 := List.pairwise_cons.1 h
    have ha := hb a (List.mem_cons_self ..)
    have := sortedI_len (lo := a + 1) (hi := hi) h1.2 (fun z hz => ⟨by have := h1.1 z hz; omega, (hb z (List.mem_cons_of_mem _ hz)).2⟩)
    simp only [List.length_cons, Int.natCast_add, Int.natCast_one]
    omega
theorem Lgr.Good.few16 {S : Lgr} (G : S.Good) : S.P.length ≤ 16 := by
  have := sortedI_len G.par G.par1
  omega
end Go.Proofs.Ytgobnamhdkbbeaa

/- A ledger in memory: its cells, and its map. -/
namespace Go.Proofs.Ytgobnamhdkbbeaa
open Go.RowKit
set_option linter.unusedSimpArgs false
set_option linter.unusedVariables false
set_option maxRecDepth 100000
theorem cell_cur : CellTy 23 := ⟨⟨_, Try.underlying23, rfl⟩, by kernel_rfl⟩
theorem cell_map : CellTy 45 := ⟨⟨_, Try.underlying45, rfl⟩, by kernel_rfl⟩
/-! The key's type. -/
theorem ends_und : ∃ fs, Try.prog.underlying 105 = some (.struct fs) := ⟨_, Try.underlying105⟩
theorem ends_law : WideMaps.KeyLaw Try.prog 105 := deep_law_laid (by kernel_rfl) (m := 2) (by omega) (of_decide_eq_true (by kernel_rfl)) (by kernel_rfl) (by kernel_rfl)
def KL (v : Value) : Prop := ∃ l, keyOf Try.prog 105 v = some l
theorem key_ty : KeyTy 105 KL := KeyTy.of ends_law
theorem wf_u8 {a : Int} (h : 0 ≤ a ∧ a ≤ 255) : (Lit.int .u8 a).wf = true := by
  simp [Lit.wf, IntKind.min, IntKind.max, IntKind.bits, IntKind.signed]; omega
theorem key_ok {a b c : Int} (ha : 0 ≤ a ∧ a ≤ 255) (hb : 0 ≤ b ∧ b ≤ 255) (hc : 0 ≤ c ∧ c ≤ 255) : KL (keyL a b c) := by
  have h1 : Try.prog.keyType 105 = true := by kernel_rfl
  have h2 : Try.prog.cellsOf 105 = 3 := by kernel_rfl
  have h3 : Try.prog.cellsOf 30 = 1 := by kernel_rfl
  have h4 : Try.prog.cellsOf 23 = 1 := by kernel_rfl
  obtain ⟨m, hm⟩ : ∃ m, Try.prog.types.size + 1 = m + 2 := by
    have : 1 ≤ Try.prog.types.size := of_decide_eq_true (by kernel_rfl)
    exact ⟨Try.prog.types.size - 1, by omega⟩
  unfold KL keyOf keyL ends
  rw [hm]
  simp [Try.underlying105, h1, Value.cells, Value.formed, h2, Program.keyLits, Try.underlying30, Try.underlying23, h3, h4, wf_u8 ha, wf_u8 hb, wf_u8 hc]
theorem map_ty : MapTy 45 105 103 KL (valL 0 0) := ⟨Try.underlying45, key_ty, fun w => by kernel_rfl⟩
/-! The cells. -/
/-- Is it among these? -/
def hasP (P : List Int) (a : Int) : Bool := decide (a ∈ P)
def ledA (P : List Int) (m : Option Nat) : Array Value := tab 18 fun i => if i < 17 then .bool (hasP P (i : Int)) else .map m
def parA (P : List Int) : Array Value := tab 17 fun i => .bool (hasP P (i : Int))
theorem ledA_sz (P : List Int) (m : Option Nat) : (ledA P m).size = 18 := tab_size _ _
theorem parA_sz (P : List Int) : (parA P).size = 17 := tab_size _ _
theorem ledA_get (P : List Int) (m : Option Nat) {a : Nat} (h : a < 17) : (ledA P m)[a]? = some (.bool (hasP P (a : Int))) := by
  unfold ledA
  rw [tab_get _ (by omega), if_pos h]
theorem ledA_getb (P : List Int) (m : Option Nat) {a : Nat} {b : Bool} (h : a < 17) (e : hasP P (a : Int) = b) : (ledA P m)[a]? = some (.bool b) := e ▸ ledA_get P m h
theorem ledA_map (P : List Int) (m : Option Nat) : (ledA P m)[17]? = some (.map m) := by
  unfold ledA
  rw [tab_get _ (by omega), if_neg (by omega)]
theorem ledA_set (P : List Int) (m : Option Nat) {a : Nat} (h : a < 17) : (ledA P m).setIfInBounds a (.bool true) = ledA (insP P a) m := by
  unfold ledA
  rw [tab_set _ _ (by omega)]
  apply tab_congr
  intro i hi
  by_cases e : i = a
  · subst e
    rw [if_pos rfl, if_pos h]
    simp [hasP, insP_mem]
  · rw [if_neg e]
    split
    · unfold hasP
      congr 1
      have : ((i : Int) ∈ insP P a) ↔ ((i : Int) ∈ P) := by
        rw [insP_mem]
        constructor
        · rintro (h | h)
          · exact h
          · omega
        · exact .inl
      simp [this]
    · rfl
theorem ledA_setMap (P : List Int) (m m' : Option Nat) : (ledA P m).setIfInBounds 17 (.map m') = ledA P m' := by
  unfold ledA
  rw [tab_set _ _ (by omega)]
  apply tab_congr
  intro i hi
  by_cases e : i = 17
  · subst e; rw [if_pos rfl, if_neg (by omega)]
  · rw [if_neg e, if_pos (by omega), if_pos (by omega)]
theorem ledA_par (P : List Int) (m : Option Nat) : (ledA P m).extract 0 (0 + 17) = parA P := by
  unfold ledA parA
  rw [tab_ext _ (by omega)]
  apply tab_congr
  intro i hi
  rw [Nat.zero_add, if_pos hi]
theorem ledA_all (P : List Int) (m : Option Nat) : (ledA P m).extract 0 (0 + 18) = ledA P m := by
  have := ledA_sz P m
  simp [← this]
theorem parA_all (P : List Int) : (parA P).extract 0 (0 + 17) = parA P := by
  have := parA_sz P
  simp [← this]
theorem parA_get (P : List Int) {a : Nat} (h : a < 17) : (parA P)[a]? = some (.bool (hasP P (a : Int))) := tab_get _ h
theorem ledA_cells (P : List Int) (m : Option Nat) : Cells 18 (ledA P m) := tab_cells fun i _ => by split <;> rfl
theorem parA_cells (P : List Int) : Cells 17 (parA P) := tab_cells fun i _ => rfl
theorem ledA_splice (P P' : List Int) (m m' : Option Nat) : splice (ledA P m) 0 (ledA P' m') = ledA P' m' := splice_all (by rw [ledA_sz, ledA_sz])
theorem parA_splice (P P' : List Int) : splice (parA P) 0 (parA P') = parA P' := splice_all (by rw [parA_sz, parA_sz])
theorem row_led : RowTy 47 18 (ledA [] none) := ⟨⟨_, Try.underlying47, rfl⟩, by kernel_rfl, by kernel_rfl⟩
theorem row_par : RowTy 44 17 (parA []) := ⟨⟨_, Try.underlying44, rfl⟩, by kernel_rfl, by kernel_rfl⟩
theorem row_ends : RowTy 105 3 (ends 0 0 0) := ⟨⟨_, Try.underlying105, rfl⟩, by kernel_rfl, by kernel_rfl⟩
theorem row_owe : RowTy 103 2 (owe 0 0) := ⟨⟨_, Try.underlying103, rfl⟩, by kernel_rfl, by kernel_rfl⟩
theorem ends_all (a b c : Int) : (ends a b c).extract 0 (0 + 3) = ends a b c := by simp
theorem owe_all (a b : Int) : (owe a b).extract 0 (0 + 2) = owe a b := by simp
theorem ends_cells (a b c : Int) : Cells 3 (ends a b c) := ⟨rfl, by simp [Value.oneCell']⟩
theorem owe_cells (a b : Int) : Cells 2 (owe a b) := ⟨rfl, by simp [Value.oneCell']⟩
theorem ends_splice (a b c x y z : Int) : splice (ends a b c) 0 (ends x y z) = ends x y z := splice_all rfl
theorem owe_splice (a b x y : Int) : splice (owe a b) 0 (owe x y) = owe x y := splice_all rfl
/-- A map held against nil. -/
theorem run_neq_map_nil {P : Program} (w : World) (t k e : TypeId) (p : Option Nat) (h : P.underlying t = some (.map k e)) : (binOp .neq t (.map p) (.map none)).run P w = .ok (.bool p.isSome) w := by
  have h2 := run_equalIn_map_nil_sl (P := P) w 9999 t k e p h
  simp only [binOp]
  simp [show Op.equal t (.map p) (.map none) = Op.equalIn (9999 + 1) t (.map p) (.map none) from rfl, h2]
theorem run_neq_mapL (p : Option Nat) (w : World) : (binOp .neq 45 (.map p) (.map none)).run Try.prog w = .ok (.bool p.isSome) w := run_neq_map_nil w _ _ _ p Try.underlying45
abbrev LdC (p : Nat) (P : List Int) (m : Option Nat) : Thing := Cel p (ledA P m) 47
abbrev LdM (q : Nat) (L : List Lin) : Thing := MapT KL q (prs L)
end Go.Proofs.Ytgobnamhdkbbeaa

/- A region that draws its order, where two allocs may come in either order. -/
namespace Go.Proofs.Ytgobnamhdkbbeaa
open Go.RowKit
set_option linter.unusedVariables false
section
variable {P : Program} {ops : Array Oper} {md : Region.Mode} {W : World} {G : List Thing → Prop}
/-- Is this order one that serves? (i, some j: i and j come in either order.) -/
def Region.lexM (md : Region.Mode) (ops : Array Oper) (loud : List Nat) : List (Nat × Option Nat) → Array Bool → Bool
  | [], listed => (Region.ready md ops listed).isEmpty
  | (k, none) :: ks, listed => (if loud.contains k then Region.ready md ops listed == [k] else (Region.ready md ops listed).contains k && Region.free md ops listed k) && Region.lexM md ops loud ks (listed.setIfInBounds k true)
  | (i, some j) :: ks, listed => (Region.ready md ops listed == [i, j]) && (Region.ready md ops (listed.setIfInBounds i true) == [j]) && (Region.ready md ops (listed.setIfInBounds j true) == [i]) && i != j && Region.lexM md ops loud ks ((listed.setIfInBounds i true).setIfInBounds j true)
def lenM : List (Nat × Option Nat) → Nat
  | [] => 0
  | (_, none) :: ks => lenM ks + 1
  | (_, some _) :: ks => lenM ks + 2
def Region.lexMB (ops : Array Oper) (loud : List Nat) (ord : List (Nat × Option Nat)) : Bool := Region.noSelect ops && Region.lexM .any ops loud ord (Array.replicate ops.size false) && lenM ord == ops.size
def wpM (P : Program) (ops : Array Oper) (W : World) (G : List Thing → Prop) (loud : List Nat) (K : List Thing → Act → Prop) : List (Nat × Option Nat) → List Thing → Act → Prop
  | [], l, a => K l a
  | (k, none) :: ks, l, a => ∃ o, ops[k]? = some o ∧ if loud.contains k then LoudG P ops W o l a fun l' u => G l' ∧ wpM P ops W G loud K ks l' (a.put o.dst u)
      else ∃ v, YieldsG P ops W G o v a ∧ wpM P ops W G loud K ks l (a.put o.dst v)
  | (i, some j) :: ks, l, a => ∃ oi oj, ops[i]? = some oi ∧ ops[j]? = some oj ∧
      (LoudG P ops W oi l a fun l1 u => G l1 ∧ LoudG P ops W oj l1 (a.put oi.dst u) fun l2 u2 => G l2 ∧ wpM P ops W G loud K ks l2 ((a.put oi.dst u).put oj.dst u2)) ∧
      (LoudG P ops W oj l a fun l1 u => G l1 ∧ LoudG P ops W oi l1 (a.put oj.dst u) fun l2 u2 => G l2 ∧ wpM P ops W G loud K ks l2 ((a.put oj.dst u).put oi.dst u2))
theorem WholeG.lexM {loud : List Nat} {K : List Thing → Act → Prop} (hsel : Region.noSelect ops = true) :
    ∀ (ks : List (Nat × Option Nat)) (l : List Thing) (listed : Array Bool) (a : Act), Region.lexM md ops loud ks listed = true → wpM P ops W G loud K ks l a → WholeG P md ops W G K (lenM ks) l listed a := by
  intro ks
  induction ks with
  | nil => intro l listed a hB h; exact ⟨by simpa [Region.lexM] using hB, h⟩
  | cons k ks ih =>
    intro l listed a hB h
    obtain ⟨i, j⟩ := k
    cases j with
    | none =>
      obtain ⟨o, h0, h⟩ := h
      rw [Region.lexM] at hB
      simp only [Bool.and_eq_true] at hB
      obtain ⟨hB, hB'⟩ := hB
      by_cases hk : loud.contains i = true
      · rw [if_pos hk] at h hB
        have hr : Region.ready md ops listed = [i] := by simpa using hB
        refine ⟨by rw [hr]; simp, fun i' hi => ?_⟩
        rw [hr] at hi
        obtain rfl : i' = i := by simpa using hi
        exact ⟨o, h0, .inr (h.mono fun l' u ⟨hg, h⟩ => ⟨hg, ih _ _ _ hB' h⟩)⟩
      · rw [if_neg hk] at h hB
        simp only [Bool.and_eq_true] at hB
        obtain ⟨v, hy, h⟩ := h
        exact WholeG.first h0 (Region.noSelect_spec hsel) (lenM ks) l listed a (Region.free_spec h0 hB.2) (by simpa using hB.1) hy (ih _ _ _ hB' h)
    | some j =>
      obtain ⟨oi, oj, hi0, hj0, h1, h2⟩ := h
      rw [Region.lexM] at hB
      simp only [Bool.and_eq_true, beq_iff_eq, bne_iff_ne, ne_eq] at hB
      obtain ⟨⟨⟨⟨r0, r1⟩, r2⟩, hne⟩, hB'⟩ := hB
      refine ⟨by rw [r0]; simp, fun k hk => ?_⟩
      rw [r0] at hk
      simp only [List.mem_cons, List.not_mem_nil, or_false] at hk
      rcases hk with rfl | rfl
      · refine ⟨oi, hi0, .inr (h1.mono fun l1 u ⟨hg, h⟩ => ⟨hg, ?_⟩)⟩
        refine ⟨by rw [r1]; simp, fun k2 hk2 => ?_⟩
        rw [r1] at hk2
        obtain rfl : k2 = j := by simpa using hk2
        exact ⟨oj, hj0, .inr (h.mono fun l2 u2 ⟨hg, h⟩ => ⟨hg, ih _ _ _ hB' h⟩)⟩
      · refine ⟨oj, hj0, .inr (h2.mono fun l1 u ⟨hg, h⟩ => ⟨hg, ?_⟩)⟩
        refine ⟨by rw [r2]; simp, fun k2 hk2 => ?_⟩
        rw [r2] at hk2
        obtain rfl : k2 = i := by simpa using hk2
        refine ⟨oi, hi0, .inr (h.mono fun l2 u2 ⟨hg, h⟩ => ⟨hg, ?_⟩)⟩
        rw [Array.setIfInBounds_comm _ _ (fun e => hne e.symm)]
        exact ih _ _ _ hB' h
theorem wp_region_M {id : Nat} {Q : Exit → Act → World → Prop} {a : Act} {w : World} {l : List Thing} {lo : List Oper} (loud : List Nat) (ord : List (Nat × Option Nat)) (G : List Thing → Prop) (H : Heap W l w) (hG : G l) (hm : P.follows .mixedOrders = true) (hB : Region.lexMB lo.toArray loud ord = true)
    (h : wpM P lo.toArray W G loud (fun l' a' => ∀ w', Heap W l' w' → Q .normal a' w') ord l a) : (Code.region id lo.toArray true).wp P Q a w := by
  simp only [Region.lexMB, Bool.and_eq_true, beq_iff_eq] at hB
  refine wp_region_any hm ?_
  have := WholeG.lexM (md := .any) hB.1.1 ord l _ a hB.1.2 h
  have h2 := WholeG.any (Q := Q) (fun l a w H h => h w H) (lenM ord) l _ a _ hG H.drew this
  rw [hB.2] at h2
  exact h2
theorem wpM_nil {loud : List Nat} {K : List Thing → Act → Prop} {l : List Thing} {a : Act} (h : K l a) : wpM P ops W G loud K [] l a := h
/-- Quiet ones at the front: as in wpO. -/
theorem wpM_step {loud : List Nat} {lo : List Oper} {K : List Thing → Act → Prop} {o : Oper} {k : Nat} {ks : List (Nat × Option Nat)} {l : List Thing} {a : Act} {s : Nat} {v : Value} (ho : lo[k]? = some o) (hk : loud.contains k = false) (hd : o.dst = some s) (hlt : s < a.tmps.size)
    (h1 : ∀ l0, G l0 → ∀ (w0 : World) (H0 : Heap W l0 w0), wpQuiet P lo.toArray (fun w' => ∃ d, w' = H0.any d) (fun a' => a'.tmps.getD s undef = v) [o] a) (h2 : wpM P lo.toArray W G loud K ks l (a.put o.dst v)) : wpM P lo.toArray W G loud K ((k, none) :: ks) l a := by
  refine ⟨o, by simpa using ho, ?_⟩
  rw [if_neg (by rw [hk]; exact Bool.false_ne_true)]
  refine ⟨v, fun l0 hl0 w0 H0 => ?_, h2⟩
  have h := h1 l0 hl0 w0 H0
  have inj : ∀ u, (a.put o.dst u).tmps.getD s undef = v → u = v := fun u hu => by
    rw [hd] at hu
    simpa [Act.put, hlt] using hu
  unfold wpQuiet at h
  by_cases hw : Region.wanted o (yielded lo.toArray a.tmps) = true
  · rw [if_pos hw] at h
    obtain ⟨u, hu, hk⟩ := h
    obtain rfl := inj u hk
    exact .inl ⟨hw, hu⟩
  · rw [if_neg hw] at h
    exact .inr ⟨by simpa using hw, (inj undef h).symm⟩
theorem wpM_loud {loud : List Nat} {lo : List Oper} {K : List Thing → Act → Prop} {o : Oper} {k : Nat} {ks : List (Nat × Option Nat)} {l : List Thing} {a : Act} (ho : lo[k]? = some o) (hk : loud.contains k = true) (h : LoudG P lo.toArray W o l a fun l' u => G l' ∧ wpM P lo.toArray W G loud K ks l' (a.put o.dst u)) : wpM P lo.toArray W G loud K ((k, none) :: ks) l a := by
  refine ⟨o, by simpa using ho, ?_⟩
  rw [if_pos hk]
  exact h
end
section
variable {W : World} {G : List Thing → Prop} {loud : List Nat} {K : List Thing → Act → Prop} {lo : List Oper} {ks : List (Nat × Option Nat)} {k : Nat} {l : List Thing} {a : Act} {T n : Nat} {z : Array Value}
theorem loud_alloc {ops : Array Oper} {dst : Option Tmp} {ty : TypeId} {pos : String} {after : Array Edge} {guard : Option (Nat × Bool)} (RT : RowTy T n z) (hw : Region.wanted ⟨dst, .alloc T, ty, pos, after, guard⟩ (yielded ops a.tmps) = true) {k : List Thing → Value → Prop}
    (h : ∀ p, k (Cel p z T :: l) (.pointer (some ⟨p, 0, none⟩))) : LoudG Try.prog ops W ⟨dst, .alloc T, ty, pos, after, guard⟩ l a k := by
  refine ⟨hw, fun w H => ⟨Cel w.heap.size z T :: l, .pointer (some ⟨w.heap.size, 0, none⟩), w.alloc (.cells z T), .inl ?_, H.alloc _ _, h _⟩⟩
  have hz := RT.zero
  cases hi : Try.prog.info? T with
  | none => rw [hi] at hz; cases hz
  | some i =>
    rw [hi] at hz
    have hz' : i.zero = some (.agg z) := hz
    have r2 : (zeroValue T).run Try.prog w = .ok (.agg z) w := by simp [zeroValue, typeInfo, hi, hz', go_sem]
    unfold execOp
    simp only [Instr.alloc, Sem.run_bind, r2, Result.andThen_ok, newVar, newRow, Value.cells]
    rfl
theorem LoudG.perm {ops : Array Oper} {o : Oper} {k k' : List Thing → Value → Prop} (h : LoudG Try.prog ops W o l a k) (hk : ∀ l' u, k l' u → ∃ l2, l'.Perm l2 ∧ k' l2 u) : LoudG Try.prog ops W o l a k' :=
  ⟨h.1, fun w H => by
    obtain ⟨l', u, w', hr, H', hk1⟩ := h.2 w H
    obtain ⟨l2, hp, hk2⟩ := hk _ _ hk1
    exact ⟨l2, u, w', hr, H'.perm hp, hk2⟩⟩
theorem wpM_allocR {dst : Option Tmp} {ty : TypeId} {pos : String} {after : Array Edge} {guard : Option (Nat × Bool)} (RT : RowTy T n z) (ho : lo[k]? = some ⟨dst, .alloc T, ty, pos, after, guard⟩) (hk : loud.contains k = true) (hw : Region.wanted ⟨dst, .alloc T, ty, pos, after, guard⟩ (yielded lo.toArray a.tmps) = true)
    (hG : ∀ p, G (Cel p z T :: l)) (h : ∀ p, wpM Try.prog lo.toArray W G loud K ks (Cel p z T :: l) (a.put dst (.pointer (some ⟨p, 0, none⟩)))) : wpM Try.prog lo.toArray W G loud K ((k, none) :: ks) l a :=
  wpM_loud ho hk (loud_alloc RT hw fun p => ⟨hG p, h p⟩)
/-- Two allocs, in either order. -/
theorem wpM_alloc2 {T2 n2 : Nat} {z2 : Array Value} {k2 : Nat} {d1 d2 : Nat} {ty ty2 : TypeId} {pos pos2 : String} {after after2 : Array Edge} {guard guard2 : Option (Nat × Bool)} (RT : RowTy T n z) (RT2 : RowTy T2 n2 z2) (ho : lo[k]? = some ⟨some d1, .alloc T, ty, pos, after, guard⟩) (ho2 : lo[k2]? = some ⟨some d2, .alloc T2, ty2, pos2, after2, guard2⟩)
    (hg : guard = none) (hg2 : guard2 = none) (hd : d1 ≠ d2)
    (hG1 : ∀ p, G (Cel p z T :: l)) (hG2 : ∀ p, G (Cel p z2 T2 :: l)) (hG : ∀ p q, G (Cel q z2 T2 :: Cel p z T :: l))
    (h : ∀ p q, wpM Try.prog lo.toArray W G loud K ks (Cel q z2 T2 :: Cel p z T :: l) ((a.put (some d1) (.pointer (some ⟨p, 0, none⟩))).put (some d2) (.pointer (some ⟨q, 0, none⟩)))) : wpM Try.prog lo.toArray W G loud K ((k, some k2) :: ks) l a := by
  subst hg hg2
  refine ⟨_, _, by simpa using ho, by simpa using ho2, ?_, ?_⟩
  · exact loud_alloc RT rfl fun p => ⟨hG1 p, loud_alloc RT2 rfl fun q => ⟨hG p q, h p q⟩⟩
  · refine loud_alloc RT2 rfl fun q => ⟨hG2 q, ?_⟩
    refine LoudG.perm (k := fun l' u => ∃ p, l' = Cel p z T :: Cel q z2 T2 :: l ∧ u = .pointer (some ⟨p, 0, none⟩)) (loud_alloc RT rfl fun p => ⟨p, rfl, rfl⟩) ?_
    rintro _ _ ⟨p, rfl, rfl⟩
    refine ⟨_, .swap _ _ _, hG p q, ?_⟩
    have e := Act.put_comm a (x := some d2) (y := some d1) (.pointer (some ⟨q, 0, none⟩)) (.pointer (some ⟨p, 0, none⟩)) (fun d e1 e2 => hd (by cases e1; cases e2; rfl))
    rw [e]
    exact h p q
theorem wpM_storeR {dst : Option Tmp} {ty : TypeId} {pos : String} {after : Array Edge} {guard : Option (Nat × Bool)} {x y : Operand} {b off : Nat} {c2 : Array Value} (RT : RowTy T n z) (ho : lo[k]? = some ⟨dst, .store T x y, ty, pos, after, guard⟩) (hk : loud.contains k = true) (hw : Region.wanted ⟨dst, .store T x y, ty, pos, after, guard⟩ (yielded lo.toArray a.tmps) = true) (hx : a.eval x = .pointer (some ⟨b, off, none⟩)) (hy : a.eval y = .agg c2) (hc : Cells n c2)
    {c c1 : Array Value} {t : TypeId} {l' : List Thing} (m : Cel b c t ∈ l) (hn : off + n ≤ c.size) (hs : splice c off c2 = c1) (r : Repl l (Cel b c t) (Cel b c1 t) l') (hG : G l')
    (h : wpM Try.prog lo.toArray W G loud K ks l' (a.put dst undef)) : wpM Try.prog lo.toArray W G loud K ((k, none) :: ks) l a := by
  subst hs
  refine wpM_loud ho hk ⟨hw, fun w H => ⟨l', undef, setBlk w b (splice c off c2), .inr ⟨?_, rfl⟩, H.set r, hG, h⟩⟩
  unfold execOp
  simp only [hx, hy, Sem.run_bind, run_storeR RT hc (H.blk m) hn, Result.andThen_ok]
  rfl
end
end Go.Proofs.Ytgobnamhdkbbeaa

/- ledgers.Ledger: there, may, New, Open, Has. -/
namespace Go.Proofs.Ytgobnamhdkbbeaa
open Go.RowKit
set_option linter.unusedSimpArgs false
set_option linter.unusedVariables false
section
variable {W w : World} {l : List Thing} {p q : Nat} {m : Option Nat} {P : List Int} {S : Lgr} {R : Ending → World → Prop}
set_option maxRecDepth 100000
set_option maxHeartbeats 1000000
theorem lmay_ans (a : Nat) (h : a ≤ 255) : Ans 75 #[.int .u8 (a : Int)] (.bool (decide (1 ≤ a ∧ a ≤ 16))) := by
  intro w
  by_cases h1 : 1 ≤ a
  · by_cases h2 : a ≤ 16
    all_goals
      go_enter Try.func75, Try.ntmps75
      go_wp2_with fail
      go_ret
      exact ⟨by simp [h1, h2]; omega, (by repeat (first | exact Ext.refl _ | refine Ext.alloc ?_ _ | refine Ext.ext ?_ _ | refine Ext.drew ?_))⟩
  · go_enter Try.func75, Try.ntmps75
    go_wp2_with fail
    go_ret
    exact ⟨by simp [h1], (by repeat (first | exact Ext.refl _ | refine Ext.alloc ?_ _ | refine Ext.ext ?_ _ | refine Ext.drew ?_))⟩
theorem lthere_nil : Ans 55 #[.pointer none] (.bool false) := by
  intro w
  go_enter Try.func55, Try.ntmps55
  go_wp2_with fail
  go_ret
  exact ⟨rfl, (by repeat (first | exact Ext.refl _ | refine Ext.alloc ?_ _ | refine Ext.ext ?_ _ | refine Ext.drew ?_))⟩
theorem lthere_H (h : LdC p P m ∈ l) : AnsH W l 55 #[.pointer (some ⟨p, 0, none⟩)] (.bool m.isSome) := by
  intro w H
  have hm := run_neq_mapL m
  generalize m.isSome = b at *
  go_enter Try.func55, Try.ntmps55
  go_wp2_with (first | go_skip | ((with_reducible show wpList _ _ _ (_ :: _) _ _); (with_reducible apply wpl_loadCH); (· exact cell_map); (· rfl); (· rfl); (· exact H); (· exact h); (· exact ledA_map _ _); (simp only [Act.put, List.setIfInBounds_toArray, List.set_cons_zero, List.set_cons_succ])))
  go_ret
  exact ⟨rfl, H⟩
/-- The ends' numbers as they may be. -/
theorem endsMay_ans (cr db cu : Nat) (h1 : cr ≤ 255) (h2 : db ≤ 255) (h3 : cu ≤ 255) : Ans 86 #[.agg (ends (cr : Int) (db : Int) (cu : Int))] (.bool (!decide (badEnds (cr : Int) (db : Int) (cu : Int)))) := by
  intro w
  have H := Heap.start w
  have m1 := lmay_ans cr h1
  have m2 := lmay_ans db h2
  by_cases c1 : 1 ≤ cr ∧ cr ≤ 16
  · rw [decide_eq_true c1] at m1
    by_cases c2 : 1 ≤ db ∧ db ≤ 16
    · rw [decide_eq_true c2] at m2
      by_cases c3 : cr = db
      · subst c3
        have HR := Lib.hid (show decide (badEnds (cr : Int) (cr : Int) (cu : Int)) = true from decide_eq_true (by unfold badEnds; omega))
        go_enter Try.func86, Try.ntmps86
        go_wp2_with (first | go_skip | ((with_reducible show wpList _ _ _ (_ :: _) _ _); (with_reducible apply wpl_boxRH); (· rfl); (· rfl); (· exact H); (clear H; intro px _ H); (simp only [Act.put, List.setIfInBounds_toArray, List.set_cons_zero, List.set_cons_succ])) | ((with_reducible show wpList _ _ _ (_ :: _) _ _); (with_reducible apply wpl_loadCH); (· first | exact cell_party | exact cell_cur); (· rfl); (· rfl); (· exact H); (· (repeat (first | (with_reducible exact List.mem_cons_self) | with_reducible apply List.mem_cons_of_mem))); (· (with_reducible first | exact ends_g0 .. | exact ends_g1 .. | exact ends_g2 ..)); (simp only [Act.put, List.setIfInBounds_toArray, List.set_cons_zero, List.set_cons_succ])) | ((with_reducible refine Ans.callH (by assumption) H ?_); clear H; intro _ H))
        go_ret
        exact ⟨by rw [HR.out]; rfl, H.low⟩
      · have e1 : ((cr : Int) == (db : Int)) = false := by simp; omega
        have e2 : ((cr : Int) != (db : Int)) = true := by simp; omega
        by_cases c4 : 1 ≤ cu
        · by_cases c5 : cu ≤ 8
          · have e5 : decide ((cu : Int) ≤ 8) = true := decide_eq_true (by omega)
            have HR := Lib.hid (show decide (badEnds (cr : Int) (db : Int) (cu : Int)) = false from decide_eq_false (by unfold badEnds; omega))
            go_enter Try.func86, Try.ntmps86
            go_wp2_with (first | go_skip | ((with_reducible show wpList _ _ _ (_ :: _) _ _); (with_reducible apply wpl_boxRH); (· rfl); (· rfl); (· exact H); (clear H; intro px _ H); (simp only [Act.put, List.setIfInBounds_toArray, List.set_cons_zero, List.set_cons_succ])) | ((with_reducible show wpList _ _ _ (_ :: _) _ _); (with_reducible apply wpl_loadCH); (· first | exact cell_party | exact cell_cur); (· rfl); (· rfl); (· exact H); (· (repeat (first | (with_reducible exact List.mem_cons_self) | with_reducible apply List.mem_cons_of_mem))); (· (with_reducible first | exact ends_g0 .. | exact ends_g1 .. | exact ends_g2 ..)); (simp only [Act.put, List.setIfInBounds_toArray, List.set_cons_zero, List.set_cons_succ])) | ((with_reducible refine Ans.callH (by assumption) H ?_); clear H; intro _ H))
            go_ret
            exact ⟨by rw [HR.out]; rfl, H.low⟩
          · have e5 : decide ((cu : Int) ≤ 8) = false := decide_eq_false (by omega)
            have HR := Lib.hid (show decide (badEnds (cr : Int) (db : Int) (cu : Int)) = true from decide_eq_true (by unfold badEnds; omega))
            go_enter Try.func86, Try.ntmps86
            go_wp2_with (first | go_skip | ((with_reducible show wpList _ _ _ (_ :: _) _ _); (with_reducible apply wpl_boxRH); (· rfl); (· rfl); (· exact H); (clear H; intro px _ H); (simp only [Act.put, List.setIfInBounds_toArray, List.set_cons_zero, List.set_cons_succ])) | ((with_reducible show wpList _ _ _ (_ :: _) _ _); (with_reducible apply wpl_loadCH); (· first | exact cell_party | exact cell_cur); (· rfl); (· rfl); (· exact H); (· (repeat (first | (with_reducible exact List.mem_cons_self) | with_reducible apply List.mem_cons_of_mem))); (· (with_reducible first | exact ends_g0 .. | exact ends_g1 .. | exact ends_g2 ..)); (simp only [Act.put, List.setIfInBounds_toArray, List.set_cons_zero, List.set_cons_succ])) | ((with_reducible refine Ans.callH (by assumption) H ?_); clear H; intro _ H))
            go_ret
            exact ⟨by rw [HR.out]; rfl, H.low⟩
        · have HR := Lib.hid (show decide (badEnds (cr : Int) (db : Int) (cu : Int)) = true from decide_eq_true (by unfold badEnds; omega))
          go_enter Try.func86, Try.ntmps86
          go_wp2_with (first | go_skip | ((with_reducible show wpList _ _ _ (_ :: _) _ _); (with_reducible apply wpl_boxRH); (· rfl); (· rfl); (· exact H); (clear H; intro px _ H); (simp only [Act.put, List.setIfInBounds_toArray, List.set_cons_zero, List.set_cons_succ])) | ((with_reducible show wpList _ _ _ (_ :: _) _ _); (with_reducible apply wpl_loadCH); (· first | exact cell_party | exact cell_cur); (· rfl); (· rfl); (· exact H); (· (repeat (first | (with_reducible exact List.mem_cons_self) | with_reducible apply List.mem_cons_of_mem))); (· (with_reducible first | exact ends_g0 .. | exact ends_g1 .. | exact ends_g2 ..)); (simp only [Act.put, List.setIfInBounds_toArray, List.set_cons_zero, List.set_cons_succ])) | ((with_reducible refine Ans.callH (by assumption) H ?_); clear H; intro _ H))
          go_ret
          exact ⟨by rw [HR.out]; rfl, H.low⟩
    · rw [decide_eq_false c2] at m2
      have HR := Lib.hid (show decide (badEnds (cr : Int) (db : Int) (cu : Int)) = true from decide_eq_true (by unfold badEnds; omega))
      go_enter Try.func86, Try.ntmps86
      go_wp2_with (first | go_skip | ((with_reducible show wpList _ _ _ (_ :: _) _ _); (with_reducible apply wpl_boxRH); (· rfl); (· rfl); (· exact H); (clear H; intro px _ H); (simp only [Act.put, List.setIfInBounds_toArray, List.set_cons_zero, List.set_cons_succ])) | ((with_reducible show wpList _ _ _ (_ :: _) _ _); (with_reducible apply wpl_loadCH); (· first | exact cell_party | exact cell_cur); (· rfl); (· rfl); (· exact H); (· (repeat (first | (with_reducible exact List.mem_cons_self) | with_reducible apply List.mem_cons_of_mem))); (· (with_reducible first | exact ends_g0 .. | exact ends_g1 .. | exact ends_g2 ..)); (simp only [Act.put, List.setIfInBounds_toArray, List.set_cons_zero, List.set_cons_succ])) | ((with_reducible refine Ans.callH (by assumption) H ?_); clear H; intro _ H))
      go_ret
      exact ⟨by rw [HR.out]; rfl, H.low⟩
  · rw [decide_eq_false c1] at m1
    have HR := Lib.hid (show decide (badEnds (cr : Int) (db : Int) (cu : Int)) = true from decide_eq_true (by unfold badEnds; omega))
    go_enter Try.func86, Try.ntmps86
    go_wp2_with (first | go_skip | ((with_reducible show wpList _ _ _ (_ :: _) _ _); (with_reducible apply wpl_boxRH); (· rfl); (· rfl); (· exact H); (clear H; intro px _ H); (simp only [Act.put, List.setIfInBounds_toArray, List.set_cons_zero, List.set_cons_succ])) | ((with_reducible show wpList _ _ _ (_ :: _) _ _); (with_reducible apply wpl_loadCH); (· first | exact cell_party | exact cell_cur); (· rfl); (· rfl); (· exact H); (· (repeat (first | (with_reducible exact List.mem_cons_self) | with_reducible apply List.mem_cons_of_mem))); (· (with_reducible first | exact ends_g0 .. | exact ends_g1 .. | exact ends_g2 ..)); (simp only [Act.put, List.setIfInBounds_toArray, List.set_cons_zero, List.set_cons_succ])) | ((with_reducible refine Ans.callH (by assumption) H ?_); clear H; intro _ H))
    go_ret
    exact ⟨by rw [HR.out]; rfl, H.low⟩
end
end Go.Proofs.Ytgobnamhdkbbeaa

/- ledgers.Ledger: New, Open, Has, Room, Line. -/
namespace Go.Proofs.Ytgobnamhdkbbeaa
open Go.RowKit
set_option linter.unusedSimpArgs false
set_option linter.unusedVariables false
abbrev line (cr db cu lim deb : Int) : Array Value := #[.int .u8 cr, .int .u8 db, .int .u8 cu, .int .i64 lim, .int .i64 deb]
theorem row_line : RowTy 84 5 (line 0 0 0 0 0) := ⟨⟨_, Try.underlying84, rfl⟩, by kernel_rfl, by kernel_rfl⟩
theorem line_all (a b c d e : Int) : (line a b c d e).extract 0 (0 + 5) = line a b c d e := by simp
theorem line_cells (a b c d e : Int) : Cells 5 (line a b c d e) := ⟨rfl, by simp [Value.oneCell']⟩
theorem line_splice (a b c d e x y z u v : Int) : splice (line a b c d e) 0 (line x y z u v) = line x y z u v := splice_all rfl
theorem line_g0 (a b c d e : Int) : (line a b c d e)[0]? = some (.int .u8 a) := rfl
theorem line_g1 (a b c d e : Int) : (line a b c d e)[1]? = some (.int .u8 b) := rfl
theorem line_g2 (a b c d e : Int) : (line a b c d e)[2]? = some (.int .u8 c) := rfl
theorem line_g3 (a b c d e : Int) : (line a b c d e)[3]? = some (.int .i64 d) := rfl
theorem line_g4 (a b c d e : Int) : (line a b c d e)[4]? = some (.int .i64 e) := rfl
theorem line_sz (a b c d e : Int) : (line a b c d e).size = 5 := rfl
theorem new_ledA : (#[.bool false, .bool false, .bool false, .bool false, .bool false, .bool false, .bool false, .bool false, .bool false, .bool false, .bool false, .bool false, .bool false, .bool false, .bool false, .bool false, .bool false, .map (some 0)] : Array Value) = ledA [] (some 0) := by kernel_rfl
section
variable {W w : World} {l : List Thing} {p q : Nat} {m : Option Nat} {P : List Int} {S : Lgr} {R : Ending → World → Prop}
set_option maxRecDepth 100000
set_option maxHeartbeats 1000000
/-- What there() is met with. -/
theorem lthere_call (H : Heap W l w) (h : LdC p P (some q) ∈ l) (k : ∀ w', Heap W l w' → R (.returned (.bool true)) w') : Calls Try.prog 55 #[.pointer (some ⟨p, 0, none⟩)] w R := (lthere_H h).call H k
theorem lnew_H (H : Heap W l w) : Calls Try.prog 24 #[] w fun e w' => ∃ p q, e = .returned (.pointer (some ⟨p, 0, none⟩)) ∧ Heap W (LdC p [] (some q) :: LdM q [] :: l) w' := by
  go_enter Try.func24, Try.ntmps24
  go_wp2_with (first
    | go_skip
    | ((with_reducible show wpList _ _ _ (_ :: _) _ _); (with_reducible apply wpl_makeM (KS := KL)); (· rfl); (· exact H); (clear H; intro q _ H); (simp only [Act.put, List.setIfInBounds_toArray, List.set_cons_zero, List.set_cons_succ]))
    | ((with_reducible show wpList _ _ _ (_ :: _) _ _); (with_reducible apply wpl_boxRH); (· rfl); (· rfl); (· exact H); (clear H; intro px _ H); (simp only [Act.put, List.setIfInBounds_toArray, List.set_cons_zero, List.set_cons_succ])))
  go_ret
  exact ⟨px, q, rfl, H⟩
theorem lopen_H (a : Nat) (ha : a ≤ 255) (H : Heap W (LdC p S.P (some q) :: l) w) : Calls Try.prog 41 #[.pointer (some ⟨p, 0, none⟩), .int .u8 (a : Int)] w fun e w' => e = .returned (.int .i64 (openE S (a : Int))) ∧ Heap W (LdC p (openS S (a : Int)).P (some q) :: l) w' := by
  have m1 := lmay_ans a ha
  by_cases c1 : 1 ≤ a ∧ a ≤ 16
  · rw [decide_eq_true c1] at m1
    have h17 : a < 17 := by omega
    by_cases c2 : (a : Int) ∈ S.P
    · have e0 : openE S (a : Int) = 8 := by unfold openE; rw [if_neg (by omega), if_pos c2]
      have e1 : openS S (a : Int) = S := by unfold openS; rw [if_neg (by omega)]
      rw [e0, e1]
      have e2 : hasP S.P (a : Int) = true := decide_eq_true c2
      clear e0 e1 c2
      generalize S.P = P at *
      go_enter Try.func41, Try.ntmps41
      go_wp2_with (first | go_skip | ((with_reducible apply lthere_call H); (· (repeat (first | (with_reducible exact List.mem_cons_self) | with_reducible apply List.mem_cons_of_mem))); (clear H; intro _ H)) | ((with_reducible refine Ans.callH (by assumption) H ?_); clear H; intro _ H) | ((with_reducible show wpList _ _ _ (_ :: _) _ _); (with_reducible apply wpl_loadCH); (· exact cell_bool); (· rfl); (· rfl); (· exact H); (· (repeat (first | (with_reducible exact List.mem_cons_self) | with_reducible apply List.mem_cons_of_mem))); (· exact ledA_getb _ _ h17 e2); (simp only [Act.put, List.setIfInBounds_toArray, List.set_cons_zero, List.set_cons_succ])))
      go_ret
      exact ⟨rfl, H⟩
    · have e0 : openE S (a : Int) = 0 := by unfold openE; rw [if_neg (by omega), if_neg c2]
      have e1 : (openS S (a : Int)).P = insP S.P a := by unfold openS; rw [if_pos e0]
      rw [e0, e1]
      have e2 : hasP S.P (a : Int) = false := decide_eq_false c2
      clear e0 e1 c2
      generalize S.P = P at *
      go_enter Try.func41, Try.ntmps41
      go_wp2_with (first
        | go_skip | ((with_reducible apply lthere_call H); (· (repeat (first | (with_reducible exact List.mem_cons_self) | with_reducible apply List.mem_cons_of_mem))); (clear H; intro _ H)) | ((with_reducible refine Ans.callH (by assumption) H ?_); clear H; intro _ H) | ((with_reducible show wpList _ _ _ (_ :: _) _ _); (with_reducible apply wpl_loadCH); (· exact cell_bool); (· rfl); (· rfl); (· exact H); (· (repeat (first | (with_reducible exact List.mem_cons_self) | with_reducible apply List.mem_cons_of_mem))); (· exact ledA_getb _ _ h17 e2); (simp only [Act.put, List.setIfInBounds_toArray, List.set_cons_zero, List.set_cons_succ]))
        | ((with_reducible show wpList _ _ _ (_ :: _) _ _); (with_reducible apply wpl_storeBH); (· exact cell_bool); (· rfl); (· rfl); (· rfl); (· exact H); (· (repeat (first | (with_reducible exact List.mem_cons_self) | with_reducible apply List.mem_cons_of_mem))); (· (rw [ledA_sz]; omega)); (· exact ledA_set _ _ h17); (· (repeat (first | (with_reducible exact Repl.here) | with_reducible apply Repl.there))); (clear H; intro _ H); (simp only [Act.put, List.setIfInBounds_toArray, List.set_cons_zero, List.set_cons_succ])))
      go_ret
      exact ⟨rfl, H⟩
  · rw [decide_eq_false c1] at m1
    have e0 : openE S (a : Int) = 1 := by unfold openE; rw [if_pos (by omega)]
    have e1 : openS S (a : Int) = S := by unfold openS; rw [if_neg (by omega)]
    rw [e0, e1]
    clear e0 e1
    generalize S.P = P at *
    go_enter Try.func41, Try.ntmps41
    go_wp2_with (first | go_skip | ((with_reducible apply lthere_call H); (· (repeat (first | (with_reducible exact List.mem_cons_self) | with_reducible apply List.mem_cons_of_mem))); (clear H; intro _ H)) | ((with_reducible refine Ans.callH (by assumption) H ?_); clear H; intro _ H))
    go_ret
    exact ⟨rfl, H⟩
theorem lhas_H (a : Nat) (ha : a ≤ 255) (h : LdC p P (some q) ∈ l) (hP : ∀ p ∈ P, 1 ≤ p ∧ p ≤ 16) : AnsH W l 33 #[.pointer (some ⟨p, 0, none⟩), .int .u8 (a : Int)] (.bool (hasP P (a : Int))) := by
  intro w H
  have m1 := lmay_ans a ha
  by_cases c1 : 1 ≤ a ∧ a ≤ 16
  · rw [decide_eq_true c1] at m1
    have h17 : a < 17 := by omega
    clear hP
    go_enter Try.func33, Try.ntmps33
    go_wp2_with (first | go_skip | ((with_reducible apply lthere_call H); (· exact h); (clear H; intro _ H)) | ((with_reducible refine Ans.callH (by assumption) H ?_); clear H; intro _ H) | ((with_reducible show wpList _ _ _ (_ :: _) _ _); (with_reducible apply wpl_loadCH); (· exact cell_bool); (· rfl); (· rfl); (· exact H); (· exact h); (· exact ledA_get _ _ h17); (simp only [Act.put, List.setIfInBounds_toArray, List.set_cons_zero, List.set_cons_succ])))
    go_ret
    exact ⟨rfl, H⟩
  · rw [decide_eq_false c1] at m1
    have e0 : hasP P (a : Int) = false := decide_eq_false fun hm => by have := hP _ hm; omega
    rw [e0]
    clear hP
    go_enter Try.func33, Try.ntmps33
    go_wp2_with (first | go_skip | ((with_reducible apply lthere_call H); (· exact h); (clear H; intro _ H)) | ((with_reducible refine Ans.callH (by assumption) H ?_); clear H; intro _ H))
    go_ret
    exact ⟨rfl, H⟩
theorem key_nat (a b c : Nat) (ha : a ≤ 255) (hb : b ≤ 255) (hc : c ≤ 255) : KL (.agg (ends (a : Int) (b : Int) (c : Int))) := key_ok (by omega) (by omega) (by omega)
end
end Go.Proofs.Ytgobnamhdkbbeaa

/- The lines of a ledger in order. -/
namespace Go.Proofs.Ytgobnamhdkbbeaa
open Go.RowKit Go.Sort
instance : Inhabited Lin := ⟨⟨0, 0, 0, 0, 0⟩⟩
def linV (x : Lin) : List Value := [.int .u8 x.cr, .int .u8 x.db, .int .u8 x.cu, .int .i64 x.lim, .int .i64 x.deb]
def linL (L : List Lin) : List Value := L.flatMap linV
theorem linL_len (L : List Lin) : (linL L).length = L.length * 5 := by
  induction L with
  | nil => rfl
  | cons x F ih => simp only [linL, List.flatMap_cons, List.length_append] at *; rw [ih]; simp [linV, Nat.add_mul]; omega
theorem linL_app (F G : List Lin) : linL (F ++ G) = linL F ++ linL G := by simp [linL]
theorem linL_at : ∀ (L : List Lin) (k : Nat) (h : k < L.length), ((linL L).drop (k * 5)).take 5 = linV L[k]
  | [], k, h => by simp at h
  | x :: L, 0, _ => by simp [linL, linV]
  | x :: L, k + 1, h => by
    have := linL_at L k (by simpa using h)
    rw [List.getElem_cons_succ, ← this]
    rw [show linL (x :: L) = linV x ++ linL L by simp [linL]]
    rw [show (k + 1) * 5 = (linV x).length + k * 5 by simp [linV]; omega, List.drop_length_add_append]
theorem linL_row (L : List Lin) (k : Nat) (h : k < L.length) : (((linL L).drop (k * 5)).take 5).toArray = line L[k].cr L[k].db L[k].cu L[k].lim L[k].deb := by
  rw [linL_at L k h]; rfl
theorem linL_ones (L : List Lin) : OneCells (linL L) := fun u hu => by
  unfold linL at hu
  rw [List.mem_flatMap] at hu
  obtain ⟨x, _, hx⟩ := hu
  simp only [linV, List.mem_cons, List.not_mem_nil, or_false] at hx
  rcases hx with rfl | rfl | rfl | rfl | rfl <;> rfl
theorem flatK_lin (d : Array Lin) : flatK linV 5 d = (linL d.toList).toArray := by
  refine Go.Sort.ext_get! (by simp [linL_len]) fun t ht => ?_
  have ht' : t < d.size * 5 := by simpa using ht
  rw [get_flatK _ _ _ _ ht']
  have hq : t / 5 < d.toList.length := by simp; omega
  have h1 := linL_at d.toList (t / 5) hq
  have hr : t % 5 < 5 := Nat.mod_lt _ (by omega)
  have h2 : (linL d.toList)[t]? = (linV d.toList[t / 5])[t % 5]? := by
    rw [← h1, List.getElem?_take, if_pos hr, List.getElem?_drop]
    congr 1; omega
  have h3 : d[t / 5]! = d.toList[t / 5] := by
    rw [getElem!_pos d (t / 5) (by simpa using hq)]; simp
  rw [h3]
  have h4 : ((linL d.toList).toArray)[t]! = ((linL d.toList)[t]?).getD default := by simp [Array.getElem!_eq_getD, Array.getD_eq_getD_getElem?]
  rw [h4, h2]
  simp [List.getElem!_eq_getElem?_getD]
def or3 (a b c : Int) : Int := if a ≠ 0 then a else if b ≠ 0 then b else c
def cfL (x y : Lin) : Int := or3 (Lib.compareInt x.cu y.cu) (Lib.compareInt x.cr y.cr) (Lib.compareInt x.db y.db)
theorem lt_cfL (x y : Lin) : ltOf cfL x y = decide (x.cu < y.cu ∨ x.cu = y.cu ∧ (x.cr < y.cr ∨ x.cr = y.cr ∧ x.db < y.db)) := by
  have key : ∀ a b : Int, (a < b ∧ Lib.compareInt a b = -1) ∨ (a = b ∧ Lib.compareInt a b = 0) ∨ (b < a ∧ Lib.compareInt a b = 1) := fun a b => by
    unfold Lib.compareInt
    rcases Int.lt_trichotomy a b with h | h | h
    · exact .inl ⟨h, by simp [h]⟩
    · exact .inr (.inl ⟨h, by simp [h]⟩)
    · refine .inr (.inr ⟨h, ?_⟩)
      rw [if_neg (by omega)]
      simp [h]
  unfold ltOf cfL or3
  congr 1
  rcases key x.cu y.cu with ⟨h, e⟩ | ⟨h, e⟩ | ⟨h, e⟩ <;> rw [e]
  · simp [h]
  · rcases key x.cr y.cr with ⟨h2, e2⟩ | ⟨h2, e2⟩ | ⟨h2, e2⟩ <;> rw [e2]
    · simp [h, h2]
    · rcases key x.db y.db with ⟨h3, e3⟩ | ⟨h3, e3⟩ | ⟨h3, e3⟩ <;> rw [e3]
      · simp [h, h2, h3]
      · simp [h, h2, h3]
      · simp [h, h2]; omega
    · simp [h]; omega
  · simp; omega
theorem swoL : SWO (ltOf cfL) where
  irrefl x := by rw [lt_cfL]; simp
  trans x y z h1 h2 := by rw [lt_cfL] at *; simp only [decide_eq_true_eq] at *; omega
  ntrans x y z h1 h2 := by rw [lt_cfL] at *; simp only [decide_eq_false_iff_not] at *; omega
theorem lt_rank {x y : Lin} (hx : Small x) (hy : Small y) : ltOf cfL x y = decide (x.rank < y.rank) := by
  rw [lt_cfL]
  unfold Small at hx hy
  unfold Lin.rank
  congr 1
  refine propext ⟨?_, ?_⟩ <;> intro h <;> omega
theorem sorted_lines {S : Lgr} {d d' : Array Lin} (G : S.Good) (hd : d.toList.Perm S.L) (hp : PermIn 0 d.size d d') (hs : SortedIn (ltOf cfL) 0 d.size d') : d'.toList = S.L := by
  obtain ⟨hsz, _, hperm⟩ := hp
  have e1 : d'.extract 0 d.size = d' := by rw [← hsz]; simp
  have e2 : d.extract 0 d.size = d := by simp
  rw [e1, e2] at hperm
  have hP : d'.toList.Perm S.L := hperm.trans hd
  have hnd : d'.toList.Nodup := hP.nodup_iff.2 (sorted_nodup G.ord)
  refine sorted_ext ?_ G.ord (fun z => hP.mem_iff)
  rw [List.pairwise_iff_getElem]
  intro i j hi hj hij
  have hi' : i < d'.size := by simpa using hi
  have hj' : j < d'.size := by simpa using hj
  have h := hs i j (Nat.zero_le _) hij (by omega)
  rw [getElem!_pos d' i hi', getElem!_pos d' j hj'] at h
  have mi : d'[i] ∈ S.L := hP.mem_iff.1 (by simp)
  have mj : d'[j] ∈ S.L := hP.mem_iff.1 (by simp)
  rw [lt_rank (G.smalls _ mj) (G.smalls _ mi)] at h
  simp only [decide_eq_false_iff_not] at h
  simp only [Array.getElem_toList]
  rcases Int.lt_or_le d'[i].rank d'[j].rank with h' | h'
  · exact h'
  · exfalso
    have e : d'[i] = d'[j] := G.uniq mi mj (by omega)
    have hne := List.pairwise_iff_getElem.1 hnd i j hi hj hij
    exact hne (by simpa using e)
end Go.Proofs.Ytgobnamhdkbbeaa
