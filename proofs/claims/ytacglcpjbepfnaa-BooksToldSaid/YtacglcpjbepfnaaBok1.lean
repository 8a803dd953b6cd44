/- Books of offers as lists: what each act answers, and makes of a book. (Plain.) -/
import Derived.Test.YtacglcpjbepfnaaRatB
namespace Go.Proofs.Ytacglcpjbepfnaa
set_option linter.unusedSimpArgs false
set_option linter.unusedVariables false
/-- An offer: its number, whose, what it sells and buys, how much is left, its rate. -/
structure Ofr where
  (sq ow se bu le nu de : Int)
deriving DecidableEq
structure Bok where
  (L : List Ofr) (nx : Int)
def mayC (c : Int) : Bool := decide (1 ≤ c) && decide (c ≤ 8)
def mayO (o : Ofr) : Bool := decide (1 ≤ o.ow ∧ o.ow ≤ 16) && (mayC o.se && mayC o.bu && decide (o.se ≠ o.bu)) && (decide (1 ≤ o.le ∧ o.le ≤ 1099511627776) && mayB o.nu o.de)
structure Bok.Good (B : Bok) : Prop where
  ord : B.L.Pairwise fun x y => x.sq < y.sq
  ok : ∀ o ∈ B.L, mayO o = true ∧ 1 ≤ o.sq ∧ o.sq < B.nx
  few : B.L.length ≤ 32
  nx : 1 ≤ B.nx ∧ B.nx ≤ 18446744073709551615
def Bok.new : Bok := ⟨[], 1⟩
theorem Bok.new_good : Bok.new.Good := ⟨.nil, (fun _ h => by cases h), by simp [Bok.new], by simp [Bok.new]⟩
theorem mayO_iff {o : Ofr} : mayO o = true ↔ (1 ≤ o.ow ∧ o.ow ≤ 16) ∧ (1 ≤ o.se ∧ o.se ≤ 8) ∧ (1 ≤ o.bu ∧ o.bu ≤ 8) ∧ o.se ≠ o.bu ∧ (1 ≤ o.le ∧ o.le ≤ 1099511627776) ∧ mayB o.nu o.de = true := by
  unfold mayO mayC
  simp only [Bool.and_eq_true, decide_eq_true_eq]
  constructor
  · rintro ⟨⟨h1, ⟨⟨h2, h3⟩, h4⟩⟩, h5, h6⟩; exact ⟨h1, h2, h3, h4, h5, h6⟩
  · rintro ⟨h1, h2, h3, h4, h5, h6⟩; exact ⟨⟨h1, ⟨⟨h2, h3⟩, h4⟩⟩, h5, h6⟩
/-! Placing. -/
def placeO (B : Bok) (ow se bu le nu de : Int) : Ofr := ⟨B.nx, ow, se, bu, le, nu, de⟩
def placeE (B : Bok) (ow se bu le nu de : Int) : Int := if mayO (placeO B ow se bu le nu de) = false then 1 else if 32 ≤ B.L.length ∨ B.nx = 18446744073709551615 then 9 else 0
def placeN (B : Bok) (ow se bu le nu de : Int) : Int := if placeE B ow se bu le nu de = 0 then B.nx else 0
def placeS (B : Bok) (ow se bu le nu de : Int) : Bok := if placeE B ow se bu le nu de = 0 then ⟨B.L ++ [placeO B ow se bu le nu de], B.nx + 1⟩ else B
theorem placeE_ok {B : Bok} {ow se bu le nu de : Int} (h : placeE B ow se bu le nu de = 0) : mayO (placeO B ow se bu le nu de) = true ∧ B.L.length < 32 ∧ B.nx ≠ 18446744073709551615 := by
  unfold placeE at h
  split at h
  · omega
  · rename_i h1
    split at h
    · omega
    · exact ⟨by simpa using h1, by omega, by omega⟩
theorem Bok.Good.place {B : Bok} (G : B.Good) (ow se bu le nu de : Int) : (placeS B ow se bu le nu de).Good := by
  unfold placeS
  split
  · rename_i h
    obtain ⟨h1, h2, h3⟩ := placeE_ok h
    have := G.nx
    refine ⟨?_, fun o ho => ?_, ?_, ?_⟩
    · simp only
      rw [List.pairwise_append]
      refine ⟨G.ord, by simp, fun x hx y hy => ?_⟩
      obtain rfl := List.mem_singleton.1 hy
      exact (G.ok x hx).2.2
    · simp only at ho ⊢
      rcases List.mem_append.1 ho with ho | ho
      · have := G.ok o ho
        exact ⟨this.1, this.2.1, by omega⟩
      · obtain rfl := List.mem_singleton.1 ho
        exact ⟨h1, G.nx.1, by show B.nx < B.nx + 1; omega⟩
    · simp only [List.length_append, List.length_singleton]; omega
    · simp only; omega
  · exact G
/-! Finding. -/
def findO (L : List Ofr) (s : Int) : Option Ofr := L.find? fun o => o.sq == s
theorem findO_some {L : List Ofr} {s : Int} {o : Ofr} (h : findO L s = some o) : o ∈ L ∧ o.sq = s := ⟨List.mem_of_find?_eq_some h, by simpa using List.find?_some h⟩
theorem findO_none {L : List Ofr} {s : Int} (h : findO L s = none) : ∀ o ∈ L, o.sq ≠ s := fun o ho => by have := List.find?_eq_none.1 h o ho; simpa using this
theorem seq_uniq : ∀ {L : List Ofr}, L.Pairwise (fun x y => x.sq < y.sq) → ∀ {x y : Ofr}, x ∈ L → y ∈ L → x.sq = y.sq → x = y
  | [], _, _, _, h, _, _ => by cases h
  | a :: L, h, x, y, hx, hy, e => by
    have h1 := List.pairwise_cons.1 h
    rcases List.mem_cons.1 hx with hx | hx <;> rcases List.mem_cons.1 hy with hy | hy
    · rw [hx, hy]
    · have := h1.1 _ hy; rw [hx] at e; omega
    · have := h1.1 _ hx; rw [hy] at e; omega
    · exact seq_uniq h1.2 hx hy e
theorem Bok.Good.find_iff {B : Bok} (G : B.Good) {s : Int} {o : Ofr} : findO B.L s = some o ↔ o ∈ B.L ∧ o.sq = s := by
  constructor
  · exact findO_some
  · rintro ⟨h1, h2⟩
    cases h : findO B.L s with
    | none => exact absurd h2 (findO_none h o h1)
    | some x =>
      obtain ⟨h3, h4⟩ := findO_some h
      rw [seq_uniq G.ord h3 h1 (by omega)]
/-! Taking of, and cancelling. -/
/-- What is left of an offer is set; of nothing it is none. -/
def setO (L : List Ofr) (s v : Int) : List Ofr := (L.map fun o => if o.sq = s then { o with le := v } else o).filter fun o => decide (0 < o.le)
def cancelE (B : Bok) (ow s : Int) : Int := match findO B.L s with
  | none => 7
  | some o => if o.ow ≠ ow then 15 else 0
def cancelN (B : Bok) (ow s : Int) : Int := match findO B.L s with
  | none => 0
  | some o => if o.ow ≠ ow then 0 else o.le
def cancelS (B : Bok) (ow s : Int) : Bok := if cancelE B ow s = 0 then ⟨setO B.L s 0, B.nx⟩ else B
def takeE (B : Bok) (s n : Int) : Int := match findO B.L s with
  | none => 7
  | some o => if n < 1 ∨ o.le < n then 1 else 0
def takeS (B : Bok) (s n : Int) : Bok := match findO B.L s with
  | none => B
  | some o => if n < 1 ∨ o.le < n then B else ⟨setO B.L s (o.le - n), B.nx⟩
theorem setO_mem {L : List Ofr} {s v : Int} {z : Ofr} : z ∈ setO L s v ↔ 0 < z.le ∧ ((z ∈ L ∧ z.sq ≠ s) ∨ ∃ x ∈ L, x.sq = s ∧ z = { x with le := v }) := by
  unfold setO
  rw [List.mem_filter, List.mem_map, decide_eq_true_eq]
  constructor
  · rintro ⟨⟨x, hx, rfl⟩, h⟩
    refine ⟨h, ?_⟩
    by_cases e : x.sq = s
    · rw [if_pos e]; exact .inr ⟨x, hx, e, rfl⟩
    · rw [if_neg e]; exact .inl ⟨hx, e⟩
  · rintro ⟨h, ⟨h1, h2⟩ | ⟨x, hx, e, rfl⟩⟩
    · exact ⟨⟨z, h1, if_neg h2⟩, h⟩
    · exact ⟨⟨x, hx, if_pos e⟩, h⟩
theorem setO_pw {L : List Ofr} (h : L.Pairwise fun x y => x.sq < y.sq) (s v : Int) : (setO L s v).Pairwise fun x y => x.sq < y.sq := by
  unfold setO
  refine List.Pairwise.filter _ ?_
  rw [List.pairwise_map]
  refine h.imp fun {a b} hab => ?_
  have e : ∀ o : Ofr, (if o.sq = s then { o with le := v } else o).sq = o.sq := fun o => by split <;> rfl
  rw [e, e]
  exact hab
theorem setO_len (L : List Ofr) (s v : Int) : (setO L s v).length ≤ L.length := by
  unfold setO
  exact Nat.le_trans (List.length_filter_le ..) (by simp)
theorem Bok.Good.set {B : Bok} (G : B.Good) (s v : Int) (hv : ∀ o ∈ B.L, o.sq = s → v ≤ o.le) : (⟨setO B.L s v, B.nx⟩ : Bok).Good := by
  refine ⟨setO_pw G.ord s v, fun z hz => ?_, Nat.le_trans (setO_len _ _ _) G.few, G.nx⟩
  obtain ⟨h0, ⟨h1, h2⟩ | ⟨x, hx, e, rfl⟩⟩ := setO_mem.1 hz
  · exact G.ok z h1
  · obtain ⟨h1, h2, h3⟩ := G.ok x hx
    have h4 := mayO_iff.1 h1
    have h5 := hv x hx e
    simp only at h0 ⊢
    exact ⟨mayO_iff.2 ⟨h4.1, h4.2.1, h4.2.2.1, h4.2.2.2.1, ⟨by simp only; omega, by simp only; omega⟩, h4.2.2.2.2.2⟩, h2, h3⟩
theorem Bok.Good.cancel {B : Bok} (G : B.Good) (ow s : Int) : (cancelS B ow s).Good := by
  unfold cancelS
  split
  · exact G.set s 0 fun o ho _ => by have := (mayO_iff.1 (G.ok o ho).1).2.2.2.2.1; omega
  · exact G
theorem Bok.Good.take {B : Bok} (G : B.Good) (s n : Int) : (takeS B s n).Good := by
  unfold takeS
  cases h : findO B.L s with
  | none => exact G
  | some o =>
    simp only
    split
    · exact G
    · refine G.set s _ fun x hx e => ?_
      obtain ⟨h1, h2⟩ := findO_some h
      obtain rfl := seq_uniq G.ord hx h1 (by omega)
      omega
/-! The best ones. -/
def cmpO (x y : Ofr) : Int := cmpR x.nu x.de y.nu y.de
/-- An offer put behind all that are no dearer. -/
def insO (out : List Ofr) (o : Ofr) : List Ofr := out.takeWhile (fun y => decide (cmpO y o ≤ 0)) ++ o :: out.dropWhile (fun y => decide (cmpO y o ≤ 0))
def ofC (se bu : Int) (o : Ofr) : Bool := (o.se == se) && (o.bu == bu)
def bestO (L : List Ofr) (se bu : Int) : List Ofr := (L.filter (ofC se bu)).foldl insO []
/-- By rate, then by number. -/
def ltO (x y : Ofr) : Prop := cmpO x y < 0 ∨ (cmpO x y = 0 ∧ x.sq < y.sq)
theorem cmpO_swap (x y : Ofr) : cmpO y x = -cmpO x y := cmpR_swap _ _ _ _
theorem cmpO_trans {x y z : Ofr} (hx : mayO x = true) (hy : mayO y = true) (hz : mayO z = true) (h1 : cmpO x y ≤ 0) (h2 : cmpO y z ≤ 0) : cmpO x z ≤ 0 :=
  cmpR_trans (mayO_iff.1 hx).2.2.2.2.2 (mayO_iff.1 hy).2.2.2.2.2 (mayO_iff.1 hz).2.2.2.2.2 h1 h2
theorem cmpO_cases (x y : Ofr) : cmpO x y = -1 ∨ cmpO x y = 0 ∨ cmpO x y = 1 := cmpR_cases _ _ _ _
theorem ltO_asym (x y : Ofr) (h : ltO x y) : ¬ ltO y x := by
  unfold ltO at *
  rw [cmpO_swap x y]
  omega
theorem ltO_le {x y : Ofr} (h : ltO x y) : cmpO x y ≤ 0 := by unfold ltO at h; omega
theorem ltO_of_seq {x y : Ofr} (h : cmpO x y ≤ 0) (hs : x.sq < y.sq) : ltO x y := by unfold ltO; omega
theorem takeWhile_ok {p : Ofr → Bool} : ∀ {L : List Ofr} {y : Ofr}, y ∈ L.takeWhile p → p y = true
  | [], y, h => by cases h
  | a :: L, y, h => by
    rw [List.takeWhile_cons] at h
    split at h
    · rename_i ha
      rcases List.mem_cons.1 h with rfl | h
      · exact ha
      · exact takeWhile_ok h
    · cases h
theorem insO_perm (out : List Ofr) (o : Ofr) : (insO out o).Perm (out ++ [o]) := by
  unfold insO
  refine List.perm_middle.trans ?_
  rw [List.takeWhile_append_dropWhile]
  exact (List.perm_append_singleton o out).symm
theorem dropWhile_all {o : Ofr} (ho : mayO o = true) : ∀ {out : List Ofr}, (∀ y ∈ out, mayO y = true) → out.Pairwise ltO → ∀ z ∈ out.dropWhile (fun y => decide (cmpO y o ≤ 0)), ¬ cmpO z o ≤ 0
  | [], _, _, z, hz => by cases hz
  | a :: out, hm, hp, z, hz => by
    rw [List.pairwise_cons] at hp
    rw [List.dropWhile_cons] at hz
    split at hz
    · exact dropWhile_all ho (fun y hy => hm y (List.mem_cons_of_mem _ hy)) hp.2 z hz
    · rename_i ha
      simp only [decide_eq_true_eq] at ha
      rcases List.mem_cons.1 hz with rfl | hz
      · exact ha
      · intro h
        exact ha (cmpO_trans (hm a List.mem_cons_self) (hm z (List.mem_cons_of_mem _ hz)) ho (ltO_le (hp.1 z hz)) h)
theorem insO_pw {out : List Ofr} {o : Ofr} (ho : mayO o = true) (hm : ∀ y ∈ out, mayO y = true) (hs : ∀ y ∈ out, y.sq < o.sq) (hp : out.Pairwise ltO) : (insO out o).Pairwise ltO := by
  unfold insO
  have e := List.takeWhile_append_dropWhile (p := fun y => decide (cmpO y o ≤ 0)) (l := out)
  have h1 : ∀ y ∈ out.takeWhile (fun y => decide (cmpO y o ≤ 0)), cmpO y o ≤ 0 := fun y hy => by have := takeWhile_ok hy; simpa using this
  have h2 := dropWhile_all ho hm hp
  have h3 : ∀ y ∈ out.takeWhile (fun y => decide (cmpO y o ≤ 0)), y ∈ out := fun y hy => by rw [← e]; exact List.mem_append_left _ hy
  have h4 : ∀ y ∈ out.dropWhile (fun y => decide (cmpO y o ≤ 0)), y ∈ out := fun y hy => by rw [← e]; exact List.mem_append_right _ hy
  have hq := hp
  rw [← e, List.pairwise_append] at hq
  rw [List.pairwise_append, List.pairwise_cons]
  refine ⟨hq.1, ⟨fun z hz => ?_, hq.2.1⟩, fun x hx y hy => ?_⟩
  · have := h2 z hz
    unfold ltO
    rw [cmpO_swap z o]
    omega
  · rcases List.mem_cons.1 hy with rfl | hy
    · exact ltO_of_seq (h1 x hx) (hs x (h3 x hx))
    · exact hq.2.2 x hx y hy
theorem best_aux : ∀ (M out : List Ofr), (∀ y ∈ M, mayO y = true) → (∀ y ∈ out, mayO y = true) → M.Pairwise (fun x y => x.sq < y.sq) → (∀ x ∈ out, ∀ y ∈ M, x.sq < y.sq) → out.Pairwise ltO → (M.foldl insO out).Pairwise ltO ∧ (M.foldl insO out).Perm (out ++ M)
  | [], out, _, _, _, _, hp => ⟨hp, by simp⟩
  | o :: M, out, h1, h2, h3, h4, hp => by
    rw [List.pairwise_cons] at h3
    have hq := insO_perm out o
    have ih := best_aux M (insO out o) (fun y hy => h1 y (List.mem_cons_of_mem _ hy)) (fun y hy => by
      rcases List.mem_append.1 (hq.mem_iff.1 hy) with h | h
      · exact h2 y h
      · obtain rfl := List.mem_singleton.1 h; exact h1 _ List.mem_cons_self) h3.2 (fun x hx y hy => by
      rcases List.mem_append.1 (hq.mem_iff.1 hx) with h | h
      · exact h4 x h y (List.mem_cons_of_mem _ hy)
      · obtain rfl := List.mem_singleton.1 h; exact h3.1 y hy)
      (insO_pw (h1 _ List.mem_cons_self) h2 (fun y hy => h4 y hy o List.mem_cons_self) hp)
    refine ⟨ih.1, ih.2.trans ?_⟩
    have := hq.append_right M
    rw [List.append_assoc, List.singleton_append] at this
    exact this
theorem Bok.Good.best {B : Bok} (G : B.Good) (se bu : Int) : (bestO B.L se bu).Pairwise ltO ∧ (bestO B.L se bu).Perm (B.L.filter (ofC se bu)) := by
  have := best_aux (B.L.filter (ofC se bu)) [] (fun y hy => (G.ok y (List.mem_filter.1 hy).1).1) (fun y hy => by cases hy) (G.ord.filter _) (fun x hx => by cases hx) .nil
  simpa [bestO] using this
theorem bestO_snoc (L : List Ofr) (o : Ofr) (se bu : Int) : bestO (L ++ [o]) se bu = if ofC se bu o = true then insO (bestO L se bu) o else bestO L se bu := by
  unfold bestO
  rw [List.filter_append, List.foldl_append]
  by_cases h : ofC se bu o = true
  · rw [if_pos h, List.filter_cons_of_pos h]; rfl
  · rw [if_neg h, List.filter_cons_of_neg h]; rfl
/-! Of. -/
def ofE (L : List Ofr) (nx : Int) : Int := if 32 < L.length then 9 else if (∀ o ∈ L, mayO o = true ∧ 1 ≤ o.sq ∧ o.sq < nx) ∧ L.Pairwise (fun x y => x.sq < y.sq) ∧ 1 ≤ nx then 0 else 1
theorem ofE_good {L : List Ofr} {nx : Int} (h : ofE L nx = 0) (hn : nx ≤ 18446744073709551615) : (⟨L, nx⟩ : Bok).Good := by
  unfold ofE at h
  split at h
  · omega
  · split at h
    · rename_i h1 h2
      exact ⟨h2.2.1, h2.1, by simp only; omega, ⟨h2.2.2, hn⟩⟩
    · omega
end Go.Proofs.Ytacglcpjbepfnaa
