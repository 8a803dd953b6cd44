/- Ledgers as lists of lines: what each act answers, and makes of a ledger. -/
import Derived.RowKit
namespace Go.Proofs.Ytacglcpjbepfnaa

structure Lin where
  (cr db cu lim deb : Int)
deriving DecidableEq
def Lin.rank (x : Lin) : Int := x.cu * 65536 + x.cr * 256 + x.db
/-- Is x the line of these ends? -/
def Lin.at (x : Lin) (cr db cu : Int) : Bool := x.cr == cr && x.db == db && x.cu == cu
theorem Lin.at_iff {x : Lin} {cr db cu : Int} : x.at cr db cu = true ↔ x.cr = cr ∧ x.db = db ∧ x.cu = cu := by simp [Lin.at, and_assoc]
theorem Lin.at_not {x : Lin} {cr db cu : Int} : x.at cr db cu = false ↔ ¬ (x.cr = cr ∧ x.db = db ∧ x.cu = cu) := by rw [← Lin.at_iff]; simp
structure Lgr where
  (P : List Int) (L : List Lin)
def lineOf (L : List Lin) (cr db cu : Int) : Option Lin := L.find? fun x => x.at cr db cu
def limOf (L : List Lin) (cr db cu : Int) : Int := ((lineOf L cr db cu).map (·.lim)).getD 0
def debOf (L : List Lin) (cr db cu : Int) : Int := ((lineOf L cr db cu).map (·.deb)).getD 0
def isLine (L : List Lin) (cr db cu : Int) : Bool := (lineOf L cr db cu).isSome
def addL (L : List Lin) (cr db cu n : Int) : List Lin := L.map fun x => if x.at cr db cu then { x with deb := x.deb + n } else x
def setL (L : List Lin) (x : Lin) : List Lin :=
  L.filter (fun y => decide (y.rank < x.rank)) ++ (if x.lim = 0 then [] else [x]) ++ L.filter (fun y => decide (x.rank < y.rank))
def insP (P : List Int) (p : Int) : List Int := P.filter (fun q => decide (q < p)) ++ p :: P.filter (fun q => decide (p < q))

structure LinOk (P : List Int) (x : Lin) : Prop where
  cr : x.cr ∈ P
  db : x.db ∈ P
  ne : x.cr ≠ x.db
  cu : 1 ≤ x.cu ∧ x.cu ≤ 8
  lim : 1 ≤ x.lim ∧ x.lim ≤ 1099511627776
  deb : 0 ≤ x.deb ∧ x.deb ≤ x.lim
structure Lgr.Good (S : Lgr) : Prop where
  par : S.P.Pairwise (· < ·)
  par1 : ∀ p ∈ S.P, 1 ≤ p ∧ p ≤ 16
  ord : S.L.Pairwise (fun x y => x.rank < y.rank)
  ok : ∀ x ∈ S.L, LinOk S.P x
  few : S.L.length ≤ 64
def Lgr.new : Lgr := ⟨[], []⟩
theorem Lgr.new_good : Lgr.new.Good := ⟨.nil, (fun _ h => by cases h), .nil, (fun _ h => by cases h), by simp [Lgr.new]⟩

/-! What the acts answer, and make. -/
def openE (S : Lgr) (p : Int) : Int := if p < 1 ∨ 16 < p then 1 else if p ∈ S.P then 8 else 0
def openS (S : Lgr) (p : Int) : Lgr := if openE S p = 0 then ⟨insP S.P p, S.L⟩ else S
def badEnds (cr db cu : Int) : Prop := cr < 1 ∨ 16 < cr ∨ db < 1 ∨ 16 < db ∨ cr = db ∨ cu < 1 ∨ 8 < cu
instance (cr db cu : Int) : Decidable (badEnds cr db cu) := by unfold badEnds; infer_instance
def trustE (S : Lgr) (cr db cu lim : Int) : Int :=
  if badEnds cr db cu ∨ lim < 0 ∨ 1099511627776 < lim then 1 else if cr ∉ S.P ∨ db ∉ S.P then 7 else if lim < debOf S.L cr db cu then 14
  else if isLine S.L cr db cu = false ∧ 0 < lim ∧ 64 ≤ S.L.length then 9 else 0
def trustS (S : Lgr) (cr db cu lim : Int) : Lgr := if trustE S cr db cu lim = 0 then ⟨S.P, setL S.L ⟨cr, db, cu, lim, debOf S.L cr db cu⟩⟩ else S
def roomOf (S : Lgr) (f t c : Int) : Int := debOf S.L f t c + limOf S.L t f c - debOf S.L t f c
def pushE (S : Lgr) (f t c n : Int) : Int := if n < 1 then 1 else if roomOf S f t c < n then 11 else 0
def fallOf (S : Lgr) (f t c n : Int) : Int := min n (debOf S.L f t c)
def pushS (S : Lgr) (f t c n : Int) : Lgr := if pushE S f t c n = 0 then ⟨S.P, addL (addL S.L f t c (-fallOf S f t c n)) t f c (n - fallOf S f t c n)⟩ else S
def forgE (S : Lgr) (cr db cu n : Int) : Int := if n < 1 then 1 else if isLine S.L cr db cu = false then 7 else if debOf S.L cr db cu < n then 14 else 0
def forgS (S : Lgr) (cr db cu n : Int) : Lgr := if forgE S cr db cu n = 0 then ⟨S.P, addL S.L cr db cu (-n)⟩ else S
def posL (L : List Lin) (p c : Int) : Int := (L.map fun x => (if x.cu = c ∧ x.cr = p then x.deb else 0) - (if x.cu = c ∧ x.db = p then x.deb else 0)).sum
def totL (L : List Lin) (c : Int) : Int := (L.map fun x => if x.cu = c then x.deb else 0).sum

/-! Ranks and ends. -/
section
variable {S : Lgr} {x y : Lin} {cr db cu : Int}
theorem rank_inj {a b c a' b' c' : Int} (h1 : 0 ≤ a ∧ a < 256) (h2 : 0 ≤ b ∧ b < 256) (h1' : 0 ≤ a' ∧ a' < 256) (h2' : 0 ≤ b' ∧ b' < 256) (h : c * 65536 + a * 256 + b = c' * 65536 + a' * 256 + b') : a = a' ∧ b = b' ∧ c = c' := by omega
theorem Lgr.Good.small (G : S.Good) (hx : x ∈ S.L) : (1 ≤ x.cr ∧ x.cr ≤ 16) ∧ (1 ≤ x.db ∧ x.db ≤ 16) := ⟨G.par1 _ (G.ok x hx).cr, G.par1 _ (G.ok x hx).db⟩
theorem Lgr.Good.rank_at (G : S.Good) (hx : x ∈ S.L) (h1 : 0 ≤ y.cr ∧ y.cr < 256) (h2 : 0 ≤ y.db ∧ y.db < 256) : x.rank = y.rank ↔ x.at y.cr y.db y.cu = true := by
  rw [Lin.at_iff]
  have := G.small hx
  constructor
  · intro h
    exact rank_inj (by omega) (by omega) h1 h2 h
  · rintro ⟨h1, h2, h3⟩
    unfold Lin.rank
    rw [h1, h2, h3]
theorem pw_inj : ∀ {L : List Lin}, L.Pairwise (fun x y => x.rank < y.rank) → ∀ {x y : Lin}, x ∈ L → y ∈ L → x.rank = y.rank → x = y
  | [], _, _, _, h, _, _ => by cases h
  | a :: L, h, x, y, hx, hy, e => by
    have h1 := List.pairwise_cons.1 h
    rcases List.mem_cons.1 hx with hx | hx <;> rcases List.mem_cons.1 hy with hy | hy
    · rw [hx, hy]
    · have := h1.1 _ hy; rw [hx] at e; omega
    · have := h1.1 _ hx; rw [hy] at e; omega
    · exact pw_inj h1.2 hx hy e
theorem Lgr.Good.uniq (G : S.Good) (hx : x ∈ S.L) (hy : y ∈ S.L) (h : x.rank = y.rank) : x = y := pw_inj G.ord hx hy h
/-- Two lists in order that have the same lines are the same. -/
theorem sorted_ext : ∀ {L M : List Lin}, L.Pairwise (fun x y => x.rank < y.rank) → M.Pairwise (fun x y => x.rank < y.rank) → (∀ z, z ∈ L ↔ z ∈ M) → L = M
  | [], [], _, _, _ => rfl
  | [], b :: M, _, _, h => by have := (h b).2 (List.mem_cons_self ..); cases this
  | a :: L, [], _, _, h => by have := (h a).1 (List.mem_cons_self ..); cases this
  | a :: L, b :: M, hL, hM, h => by
    have h1 := List.pairwise_cons.1 hL
    have h2 := List.pairwise_cons.1 hM
    have e : a = b := by
      rcases List.mem_cons.1 ((h a).1 (List.mem_cons_self ..)) with e | ha
      · exact e
      · rcases List.mem_cons.1 ((h b).2 (List.mem_cons_self ..)) with e | hb
        · exact e.symm
        · have := h1.1 _ hb; have := h2.1 _ ha; omega
    subst e
    congr 1
    refine sorted_ext h1.2 h2.2 fun z => ⟨fun hz => ?_, fun hz => ?_⟩
    · rcases List.mem_cons.1 ((h z).1 (List.mem_cons_of_mem _ hz)) with e | hz'
      · subst e; have := h1.1 _ hz; omega
      · exact hz'
    · rcases List.mem_cons.1 ((h z).2 (List.mem_cons_of_mem _ hz)) with e | hz'
      · subst e; have := h2.1 _ hz; omega
      · exact hz'
theorem lineOf_mem {L : List Lin} (h : lineOf L cr db cu = some x) : x ∈ L ∧ x.cr = cr ∧ x.db = db ∧ x.cu = cu := by
  refine ⟨List.mem_of_find?_eq_some h, ?_⟩
  have := List.find?_some h
  exact Lin.at_iff.1 this
theorem lineOf_none {L : List Lin} (h : lineOf L cr db cu = none) : ∀ x ∈ L, x.at cr db cu = false := by
  intro x hx
  have := List.find?_eq_none.1 h x hx
  simpa using this
theorem Lgr.Good.lineOf_iff (G : S.Good) : lineOf S.L cr db cu = some x ↔ x ∈ S.L ∧ x.at cr db cu = true := by
  constructor
  · intro h
    exact ⟨(lineOf_mem h).1, Lin.at_iff.2 (lineOf_mem h).2⟩
  · rintro ⟨hx, ha⟩
    cases h : lineOf S.L cr db cu with
    | none => rw [lineOf_none h x hx] at ha; cases ha
    | some y =>
      obtain ⟨hy, hy2⟩ := lineOf_mem h
      have hx2 := Lin.at_iff.1 ha
      congr 1
      refine G.uniq hy hx ?_
      unfold Lin.rank
      rw [hy2.1, hy2.2.1, hy2.2.2, hx2.1, hx2.2.1, hx2.2.2]
theorem isLine_iff {L : List Lin} : isLine L cr db cu = true ↔ ∃ x ∈ L, x.at cr db cu = true := by
  unfold isLine lineOf
  rw [List.find?_isSome]
theorem isLine_not {L : List Lin} : isLine L cr db cu = false ↔ ∀ x ∈ L, x.at cr db cu = false := by
  rw [Bool.eq_false_iff, ne_eq, isLine_iff]
  simp
theorem Lgr.Good.vals (G : S.Good) (hx : x ∈ S.L) : lineOf S.L x.cr x.db x.cu = some x ∧ limOf S.L x.cr x.db x.cu = x.lim ∧ debOf S.L x.cr x.db x.cu = x.deb ∧ isLine S.L x.cr x.db x.cu = true := by
  have h : lineOf S.L x.cr x.db x.cu = some x := G.lineOf_iff.2 ⟨hx, Lin.at_iff.2 ⟨rfl, rfl, rfl⟩⟩
  exact ⟨h, by simp [limOf, h], by simp [debOf, h], by simp [isLine, h]⟩
theorem Lgr.Good.noLine (h : isLine S.L cr db cu = false) : lineOf S.L cr db cu = none ∧ limOf S.L cr db cu = 0 ∧ debOf S.L cr db cu = 0 := by
  have h : lineOf S.L cr db cu = none := by unfold isLine at h; simpa using h
  exact ⟨h, by simp [limOf, h], by simp [debOf, h]⟩
/-- There is such a line; or there is none. -/
theorem Lgr.Good.split (G : S.Good) (cr db cu : Int) : (∃ x ∈ S.L, x.cr = cr ∧ x.db = db ∧ x.cu = cu ∧ lineOf S.L cr db cu = some x ∧ limOf S.L cr db cu = x.lim ∧ debOf S.L cr db cu = x.deb ∧ isLine S.L cr db cu = true) ∨
    ((∀ x ∈ S.L, x.at cr db cu = false) ∧ lineOf S.L cr db cu = none ∧ limOf S.L cr db cu = 0 ∧ debOf S.L cr db cu = 0 ∧ isLine S.L cr db cu = false) := by
  cases h : isLine S.L cr db cu with
  | true =>
    obtain ⟨x, hx, ha⟩ := isLine_iff.1 h
    obtain ⟨rfl, rfl, rfl⟩ := Lin.at_iff.1 ha
    have := G.vals hx
    exact .inl ⟨x, hx, rfl, rfl, rfl, this.1, this.2.1, this.2.2.1, rfl⟩
  | false => exact .inr ⟨isLine_not.1 h, (noLine h).1, (noLine h).2.1, (noLine h).2.2, rfl⟩
theorem Lgr.Good.nums (G : S.Good) (cr db cu : Int) : 0 ≤ debOf S.L cr db cu ∧ debOf S.L cr db cu ≤ limOf S.L cr db cu ∧ limOf S.L cr db cu ≤ 1099511627776 := by
  rcases G.split cr db cu with ⟨x, hx, _, _, _, _, h2, h3, _⟩ | ⟨_, _, h2, h3, _⟩
  · have := G.ok x hx
    rw [h2, h3]
    exact ⟨this.deb.1, this.deb.2, this.lim.2⟩
  · rw [h2, h3]; omega
theorem Lgr.Good.noSelf (G : S.Good) (p cu : Int) : isLine S.L p p cu = false := by
  rw [isLine_not]
  intro x hx
  rw [Lin.at_not]
  rintro ⟨h1, h2, _⟩
  exact (G.ok x hx).ne (h1.trans h2.symm)
theorem Lgr.Good.inP (G : S.Good) (h : isLine S.L cr db cu = true) : cr ∈ S.P ∧ db ∈ S.P := by
  obtain ⟨x, hx, ha⟩ := isLine_iff.1 h
  obtain ⟨rfl, rfl, rfl⟩ := Lin.at_iff.1 ha
  exact ⟨(G.ok x hx).cr, (G.ok x hx).db⟩
theorem Lgr.Good.room (G : S.Good) (f t c : Int) : 0 ≤ roomOf S f t c ∧ roomOf S f t c ≤ 2199023255552 := by
  have h1 := G.nums f t c
  have h2 := G.nums t f c
  unfold roomOf
  omega
/-- The room of the chapter: none of one's own, nor of who is not there. -/
theorem Lgr.Good.room0 (G : S.Good) {f t : Int} (c : Int) (h : f = t ∨ f ∉ S.P ∨ t ∉ S.P) : roomOf S f t c = 0 := by
  have h1 : isLine S.L f t c = false := by
    rcases h with rfl | h | h
    · exact G.noSelf f c
    · cases hl : isLine S.L f t c with
      | false => rfl
      | true => exact absurd (G.inP hl).1 h
    · cases hl : isLine S.L f t c with
      | false => rfl
      | true => exact absurd (G.inP hl).2 h
  have h2 : isLine S.L t f c = false := by
    rcases h with rfl | h | h
    · exact G.noSelf f c
    · cases hl : isLine S.L t f c with
      | false => rfl
      | true => exact absurd (G.inP hl).2 h
    · cases hl : isLine S.L t f c with
      | false => rfl
      | true => exact absurd (G.inP hl).1 h
  unfold roomOf
  rw [(noLine h1).2.2, (noLine h2).2.1, (noLine h2).2.2]
  rfl

/-! Keeping. -/
theorem insP_mem {P : List Int} {p q : Int} : q ∈ insP P p ↔ q ∈ P ∨ q = p := by
  unfold insP
  simp only [List.mem_append, List.mem_filter, List.mem_cons, decide_eq_true_eq]
  constructor
  · rintro (⟨h, _⟩ | rfl | ⟨h, _⟩)
    · exact .inl h
    · exact .inr rfl
    · exact .inl h
  · rintro (h | rfl)
    · rcases Int.lt_trichotomy q p with h' | rfl | h'
      · exact .inl ⟨h, h'⟩
      · exact .inr (.inl rfl)
      · exact .inr (.inr ⟨h, h'⟩)
    · exact .inr (.inl rfl)
theorem insP_sorted {P : List Int} (h : P.Pairwise (· < ·)) (p : Int) : (insP P p).Pairwise (· < ·) := by
  unfold insP
  rw [List.pairwise_append, List.pairwise_cons]
  refine ⟨h.filter _, ⟨?_, h.filter _⟩, ?_⟩
  · intro q hq
    have := (List.mem_filter.1 hq).2
    simpa using this
  · intro a ha b hb
    have h1 : a < p := by simpa using (List.mem_filter.1 ha).2
    rcases List.mem_cons.1 hb with rfl | hb
    · exact h1
    · have h2 : p < b := by simpa using (List.mem_filter.1 hb).2
      omega
theorem openE_ok {p : Int} (h : openE S p = 0) : (1 ≤ p ∧ p ≤ 16) ∧ p ∉ S.P := by
  unfold openE at h
  split at h
  · omega
  · split at h
    · omega
    · exact ⟨by omega, by assumption⟩
theorem Lgr.Good.open (G : S.Good) (p : Int) : (openS S p).Good := by
  unfold openS
  split
  · rename_i h
    obtain ⟨h1, h2⟩ := openE_ok h
    refine ⟨insP_sorted G.par p, fun q hq => ?_, G.ord, fun x hx => ?_, G.few⟩
    · rcases insP_mem.1 hq with hq | rfl
      · exact G.par1 q hq
      · exact h1
    · have := G.ok x hx
      exact ⟨insP_mem.2 (.inl this.cr), insP_mem.2 (.inl this.db), this.ne, this.cu, this.lim, this.deb⟩
  · exact G
theorem setL_mem {L : List Lin} {x z : Lin} : z ∈ setL L x ↔ (z ∈ L ∧ z.rank ≠ x.rank) ∨ (x.lim ≠ 0 ∧ z = x) := by
  unfold setL
  simp only [List.mem_append, List.mem_filter, decide_eq_true_eq]
  constructor
  · rintro ((⟨h, h'⟩ | h) | ⟨h, h'⟩)
    · exact .inl ⟨h, by omega⟩
    · split at h
      · cases h
      · exact .inr ⟨by assumption, by simpa using h⟩
    · exact .inl ⟨h, by omega⟩
  · rintro (⟨h, h'⟩ | ⟨h, rfl⟩)
    · rcases Int.lt_or_gt_of_ne h' with h' | h'
      · exact .inl (.inl ⟨h, h'⟩)
      · exact .inr ⟨h, h'⟩
    · exact .inl (.inr (by rw [if_neg h]; simp))
theorem setL_sorted {L : List Lin} (h : L.Pairwise (fun x y => x.rank < y.rank)) (x : Lin) : (setL L x).Pairwise (fun x y => x.rank < y.rank) := by
  unfold setL
  rw [List.pairwise_append, List.pairwise_append]
  refine ⟨⟨h.filter _, ?_, ?_⟩, h.filter _, ?_⟩
  · split <;> simp
  · intro a ha b hb
    have h1 : a.rank < x.rank := by simpa using (List.mem_filter.1 ha).2
    split at hb
    · cases hb
    · obtain rfl : b = x := by simpa using hb
      exact h1
  · intro a ha b hb
    have h2 : x.rank < b.rank := by simpa using (List.mem_filter.1 hb).2
    rcases List.mem_append.1 ha with ha | ha
    · have h1 : a.rank < x.rank := by simpa using (List.mem_filter.1 ha).2
      omega
    · split at ha
      · cases ha
      · obtain rfl : a = x := by simpa using ha
        exact h2
theorem filter3_len (L : List Lin) (r : Int) : (L.filter (fun y => decide (y.rank < r))).length + (L.filter (fun y => decide (r < y.rank))).length + (L.filter (fun y => decide (y.rank = r))).length = L.length := by
  induction L with
  | nil => rfl
  | cons a L ih =>
    simp only [List.filter_cons]
    rcases Int.lt_trichotomy a.rank r with h | h | h
    · simp [h, show ¬ r < a.rank by omega, show ¬ a.rank = r by omega]; omega
    · simp [h]; omega
    · simp [h, show ¬ a.rank < r by omega, show ¬ a.rank = r by omega]; omega
theorem setL_len (L : List Lin) (x : Lin) : (setL L x).length + (L.filter (fun y => decide (y.rank = x.rank))).length = L.length + (if x.lim = 0 then 0 else 1) := by
  have := filter3_len L x.rank
  unfold setL
  simp only [List.length_append]
  split
  · simp; omega
  · simp; omega
theorem trustE_ok {lim : Int} (h : trustE S cr db cu lim = 0) : ¬ badEnds cr db cu ∧ 0 ≤ lim ∧ lim ≤ 1099511627776 ∧ cr ∈ S.P ∧ db ∈ S.P ∧ debOf S.L cr db cu ≤ lim ∧ ¬ (isLine S.L cr db cu = false ∧ 0 < lim ∧ 64 ≤ S.L.length) := by
  unfold trustE at h
  split at h
  · omega
  · rename_i h1
    split at h
    · omega
    · rename_i h2
      split at h
      · omega
      · split at h
        · omega
        · rename_i h4
          simp only [not_or, Decidable.not_not] at h1 h2
          exact ⟨h1.1, by omega, by omega, h2.1, h2.2, by omega, h4⟩
theorem Lgr.Good.trust (G : S.Good) (cr db cu lim : Int) : (trustS S cr db cu lim).Good := by
  unfold trustS
  split
  · rename_i h
    obtain ⟨h1, h2, h3, h4, h5, h6, h7⟩ := trustE_ok h
    have hc := G.par1 cr h4
    have hd := G.par1 db h5
    have hn := G.nums cr db cu
    refine ⟨G.par, G.par1, setL_sorted G.ord _, fun x hx => ?_, ?_⟩
    · rcases setL_mem.1 hx with ⟨hx, _⟩ | ⟨hl, rfl⟩
      · exact G.ok x hx
      · unfold badEnds at h1
        exact ⟨h4, h5, (by simp only; omega), (by simp only; omega), (by simp only at *; omega), (by simp only at *; omega)⟩
    · have hlen := setL_len S.L ⟨cr, db, cu, lim, debOf S.L cr db cu⟩
      have hf := G.few
      cases hl : isLine S.L cr db cu with
      | false =>
        simp only at hlen ⊢
        by_cases h0 : lim = 0
        · rw [if_pos h0] at hlen; omega
        · rw [if_neg h0] at hlen
          have : ¬ (64 ≤ S.L.length) := fun h' => h7 ⟨hl, by omega, h'⟩
          omega
      | true =>
        obtain ⟨x, hx, ha⟩ := isLine_iff.1 hl
        have hr : x.rank = (⟨cr, db, cu, lim, debOf S.L cr db cu⟩ : Lin).rank := (G.rank_at hx (by simp only; omega) (by simp only; omega)).2 ha
        have : 0 < (S.L.filter (fun y => decide (y.rank = (⟨cr, db, cu, lim, debOf S.L cr db cu⟩ : Lin).rank))).length := List.length_pos_of_mem (List.mem_filter.2 ⟨hx, by simpa using hr⟩)
        simp only at hlen this ⊢
        split at hlen <;> omega
  · exact G
theorem addL_len (L : List Lin) (cr db cu n : Int) : (addL L cr db cu n).length = L.length := by simp [addL]
theorem addL_ranks (L : List Lin) (cr db cu n : Int) : (addL L cr db cu n).map (·.rank) = L.map (·.rank) := by
  unfold addL
  rw [List.map_map]
  refine List.map_congr_left fun x _ => ?_
  simp only [Function.comp]
  split <;> rfl
theorem addL_mem {L : List Lin} {n : Int} {z : Lin} (h : z ∈ addL L cr db cu n) : ∃ x ∈ L, z.cr = x.cr ∧ z.db = x.db ∧ z.cu = x.cu ∧ z.lim = x.lim ∧ z.deb = x.deb + (if x.at cr db cu then n else 0) := by
  obtain ⟨x, hx, rfl⟩ := List.mem_map.1 h
  refine ⟨x, hx, ?_⟩
  by_cases ha : x.at cr db cu = true
  · simp [ha]
  · simp [ha]
theorem Lgr.Good.add (G : S.Good) {n : Int} (h0 : 0 ≤ debOf S.L cr db cu + n) (h1 : debOf S.L cr db cu + n ≤ limOf S.L cr db cu) : (⟨S.P, addL S.L cr db cu n⟩ : Lgr).Good := by
  refine ⟨G.par, G.par1, ?_, fun z hz => ?_, by rw [addL_len]; exact G.few⟩
  · have : ((addL S.L cr db cu n).map (·.rank)).Pairwise (· < ·) := by rw [addL_ranks, List.pairwise_map]; exact G.ord
    rwa [List.pairwise_map] at this
  · obtain ⟨x, hx, e1, e2, e3, e4, e5⟩ := addL_mem hz
    have ok := G.ok x hx
    refine ⟨by rw [e1]; exact ok.cr, by rw [e2]; exact ok.db, by rw [e1, e2]; exact ok.ne, by rw [e3]; exact ok.cu, by rw [e4]; exact ok.lim, ?_⟩
    rw [e4, e5]
    split
    · rename_i ha
      obtain ⟨rfl, rfl, rfl⟩ := Lin.at_iff.1 ha
      have := G.vals hx
      rw [this.2.2.1] at h0 h1
      rw [this.2.1] at h1
      exact ⟨h0, h1⟩
    · have := ok.deb; omega
theorem lineOf_add (L : List Lin) (cr db cu n a b c : Int) : lineOf (addL L cr db cu n) a b c = (lineOf L a b c).map fun x => if x.at cr db cu then { x with deb := x.deb + n } else x := by
  unfold lineOf addL
  rw [List.find?_map]
  congr 1
  refine congrArg (fun f => List.find? f L) ?_
  funext x
  simp only [Function.comp]
  split <;> rfl
theorem limOf_add (L : List Lin) (cr db cu n a b c : Int) : limOf (addL L cr db cu n) a b c = limOf L a b c := by
  unfold limOf
  rw [lineOf_add, Option.map_map]
  congr 2
  funext x
  simp only [Function.comp]
  split <;> rfl
theorem isLine_add (L : List Lin) (cr db cu n a b c : Int) : isLine (addL L cr db cu n) a b c = isLine L a b c := by
  unfold isLine
  rw [lineOf_add]
  simp
theorem debOf_add (L : List Lin) (cr db cu n a b c : Int) : debOf (addL L cr db cu n) a b c = debOf L a b c + (if isLine L a b c = true ∧ a = cr ∧ b = db ∧ c = cu then n else 0) := by
  unfold debOf
  rw [lineOf_add]
  cases h : lineOf L a b c with
  | none => simp [isLine, h]
  | some x =>
    obtain ⟨_, rfl, rfl, rfl⟩ := lineOf_mem h
    simp only [Option.map_some, Option.getD_some, isLine, h, Option.isSome_some, true_and]
    by_cases ha : x.at cr db cu = true
    · rw [if_pos ha, if_pos (Lin.at_iff.1 ha)]
    · rw [if_neg ha, if_neg (fun h' => ha (Lin.at_iff.2 h'))]; simp
theorem addL_zero (L : List Lin) (cr db cu : Int) : addL L cr db cu 0 = L := by
  unfold addL
  conv => rhs; rw [← List.map_id L]
  refine List.map_congr_left fun x _ => ?_
  simp
theorem addL_none {L : List Lin} {n : Int} (h : isLine L cr db cu = false) : addL L cr db cu n = L := by
  unfold addL
  conv => rhs; rw [← List.map_id L]
  refine List.map_congr_left fun x hx => ?_
  simp [isLine_not.1 h x hx]
/-- The parts of a push. -/
theorem Lgr.Good.push0 (G : S.Good) {f t c n : Int} (h : pushE S f t c n = 0) : 1 ≤ n ∧ n ≤ roomOf S f t c ∧ f ≠ t ∧ f ∈ S.P ∧ t ∈ S.P := by
  unfold pushE at h
  split at h
  · omega
  · split at h
    · omega
    · refine ⟨by omega, by omega, ?_, ?_, ?_⟩
      · intro e; have := G.room0 c (.inl e); omega
      · refine Decidable.byContradiction fun e => ?_
        have := G.room0 (t := t) c (.inr (.inl e)); omega
      · refine Decidable.byContradiction fun e => ?_
        have := G.room0 (f := f) c (.inr (.inr e)); omega
theorem Lgr.Good.pushA (G : S.Good) {f t c n : Int} (h : pushE S f t c n = 0) : (⟨S.P, addL S.L f t c (-fallOf S f t c n)⟩ : Lgr).Good := by
  obtain ⟨h1, h2, h3, _⟩ := G.push0 h
  have hn := G.nums f t c
  refine G.add ?_ ?_
  · unfold fallOf; omega
  · unfold fallOf; omega
theorem Lgr.Good.push (G : S.Good) (f t c n : Int) : (pushS S f t c n).Good := by
  unfold pushS
  split
  · rename_i h
    obtain ⟨h1, h2, h3, _⟩ := G.push0 h
    have hn := G.nums t f c
    have hn2 := G.nums f t c
    refine (G.pushA h).add ?_ ?_
    · simp only [debOf_add]
      rw [if_neg (fun e => h3 e.2.1.symm)]
      unfold fallOf; omega
    · simp only [debOf_add, limOf_add]
      rw [if_neg (fun e => h3 e.2.1.symm)]
      unfold fallOf roomOf at *; omega
  · exact G
theorem Lgr.Good.forg (G : S.Good) (cr db cu n : Int) : (forgS S cr db cu n).Good := by
  unfold forgS
  split
  · rename_i h
    have hn := G.nums cr db cu
    unfold forgE at h
    split at h
    · omega
    · split at h
      · omega
      · split at h
        · omega
        · refine G.add ?_ ?_ <;> omega
  · exact G
end
end Go.Proofs.Ytacglcpjbepfnaa
