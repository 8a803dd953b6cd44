/- GraphsPlay: part 13 of its proof: Left, Open, Shape, Open05, LawPathsLeast. -/
import Derived.Test.YtglehneaphigdaaGraphsPlayPart12
import Derived.ProofKit
import Derived.OpenShut
import Derived.ChangeOld
import Derived.Test.YtglehneaphigdaaProg
import Derived.Lib.SmallJoins
/- PathsLeast's table against the distances: plain laws. -/
namespace Go.Proofs.Ytglehneaphigdaa
set_option linter.unusedVariables false
/-- One step of the table. -/
def relT (A : Nat → Nat → Bool) (T : Nat → Nat) (a b : Nat) : Nat → Nat := if A a b = true ∧ T b + 1 < T a then updN T a (T b + 1) else T
/-- What it never loses: it stands for ways, or there is none. -/
def Sound (d T : Nat → Nat) : Prop := ∀ p, T p = 99 ∨ (d p ≤ T p ∧ d p < 17 ∧ T p ≤ 98)
theorem relT_le (A : Nat → Nat → Bool) (T : Nat → Nat) (a b p : Nat) : relT A T a b p ≤ T p := by
  unfold relT
  split
  · rename_i h
    simp only [updN]
    split
    · rename_i e; subst e; omega
    · omega
  · omega
theorem relT_at (A : Nat → Nat → Bool) (T : Nat → Nat) (a b : Nat) (h : A a b = true) : relT A T a b a ≤ T b + 1 := by
  unfold relT
  split
  · simp [updN]
  · rename_i hn
    have : ¬ T b + 1 < T a := fun e => hn ⟨h, e⟩
    omega
theorem Sound.rel {A : Nat → Nat → Bool} {t : Nat} {d T : Nat → Nat} (hd : IsDist A t d) (h : Sound d T) (a b : Nat) (hA : A a b = true → a ≤ 16) : Sound d (relT A T a b) := by
  intro p
  unfold relT
  split
  · rename_i hc
    simp only [updN]
    split
    · rename_i e
      subst e
      have hb := h b
      have ha := h p
      have hs := hd.step p b hc.1
      have h17 := hd.le p
      right
      have hb2 : d b ≤ T b ∧ d b < 17 ∧ T b ≤ 98 := by
        rcases hb with hb | hb
        · rcases ha with ha | ha <;> omega
        · exact hb
      have hi := hd.ins b hb2.2.1
      refine ⟨by omega, by omega, ?_⟩
      rcases ha with ha | ha <;> omega
    · exact h p
  · exact h p
structure InvN (d : Nat → Nat) (n : Nat) (T : Nat → Nat) : Prop where
  snd : Sound d T
  low : ∀ p, d p ≤ n → d p < 17 → T p = d p
structure InvA (d : Nat → Nat) (n a : Nat) (T : Nat → Nat) : Prop where
  snd : Sound d T
  low : ∀ p, d p ≤ n → d p < 17 → T p = d p
  cur : ∀ p, p < a → d p = n + 1 → d p < 17 → T p = d p
structure InvB (A : Nat → Nat → Bool) (d : Nat → Nat) (n a b : Nat) (T : Nat → Nat) : Prop where
  inv : InvA d n a T
  row : ∀ q, q < b → A a q = true → d q = n → T a ≤ n + 1
theorem Sound.keep {d T T' : Nat → Nat} {p : Nat} (h : Sound d T') (hle : T' p ≤ T p) (e : T p = d p) (h17 : d p < 17) : T' p = d p := by
  rcases h p with h | h <;> omega
theorem InvA.start {d T : Nat → Nat} {A : Nat → Nat → Bool} {t n : Nat} (hd : IsDist A t d) (h : InvN d n T) : InvA d n 1 T :=
  ⟨h.snd, h.low, fun p hp e h17 => by have := (hd.ins p h17).1; omega⟩
theorem InvB.start {d T : Nat → Nat} {A : Nat → Nat → Bool} {n a : Nat} (h0 : A a 0 = false) (h : InvA d n a T) : InvB A d n a 1 T :=
  ⟨h, fun q hq hA _ => by
    obtain rfl : q = 0 := by omega
    rw [h0] at hA; cases hA⟩
theorem InvB.step {d T : Nat → Nat} {A : Nat → Nat → Bool} {t n a b : Nat} (hd : IsDist A t d) (hA : ∀ a b, A a b = true → a ≤ 16) (hn : n ≤ 15) (h : InvB A d n a b T) : InvB A d n a (b + 1) (relT A T a b) := by
  have hs := h.inv.snd.rel hd a b (hA a b)
  refine ⟨⟨hs, fun p hp h17 => hs.keep (relT_le A T a b p) (h.inv.low p hp h17) h17, fun p hp e h17 => hs.keep (relT_le A T a b p) (h.inv.cur p hp e h17) h17⟩, fun q hq hq2 hdq => ?_⟩
  by_cases e : q = b
  · subst e
    have h1 := relT_at A T a q hq2
    have h2 := h.inv.low q (by omega) (by omega)
    omega
  · exact Nat.le_trans (relT_le A T a b a) (h.row q (by omega) hq2 hdq)
theorem InvB.done {d T : Nat → Nat} {A : Nat → Nat → Bool} {t n a : Nat} (hd : IsDist A t d) (h : InvB A d n a 17 T) : InvA d n (a + 1) T :=
  ⟨h.inv.snd, h.inv.low, fun p hp e h17 => by
    by_cases hpa : p = a
    · subst hpa
      have hpt : p ≠ t := fun e2 => by subst e2; have := hd.top; omega
      obtain ⟨q, hA, hq⟩ := hd.par p h17 hpt
      have hi := hd.ins q (by omega)
      have := h.row q (by omega) hA (by omega)
      rcases h.inv.snd p with h2 | h2 <;> omega
    · exact h.inv.cur p (by omega) e h17⟩
theorem InvA.done {d T : Nat → Nat} {A : Nat → Nat → Bool} {t n : Nat} (hd : IsDist A t d) (h : InvA d n 17 T) : InvN d (n + 1) T :=
  ⟨h.snd, fun p hp h17 => by
    by_cases e : d p ≤ n
    · exact h.low p e h17
    · have := (hd.ins p h17).2.1
      exact h.cur p (by omega) (by omega) h17⟩
theorem InvN.start {d : Nat → Nat} {A : Nat → Nat → Bool} {t : Nat} (hd : IsDist A t d) : InvN d 0 (updN (fun _ => 99) t 0) :=
  ⟨fun p => by
    simp only [updN]
    split
    · rename_i e; subst e; right; have := hd.top; omega
    · exact .inl rfl, fun p hp h17 => by
    have e := hd.zero (show d p = 0 by omega)
    subst e
    simp [updN, hd.top]⟩
/-- Behind sixteen rounds the table is the distances'. -/
theorem InvN.end {d T : Nat → Nat} {A : Nat → Nat → Bool} {t : Nat} (hd : IsDist A t d) (h : InvN d 16 T) (p : Nat) : T p = if d p < 17 then d p else 99 := by
  by_cases e : d p < 17
  · rw [if_pos e, h.low p (by omega) e]
  · rw [if_neg e]
    rcases h.snd p with h2 | h2
    · exact h2
    · omega
/-- One round of the search by breadth, done. -/
theorem BfsIn.finish {A : Nat → Nat → Bool} {t a : Nat} (hA : ∀ p q, A p q = true → p ≤ 16) : ∀ (j k : Nat) (d : Nat → Nat) (Q : List Nat), k + j = 17 → 1 ≤ k → BfsIn A t d Q a k → ∃ d2 Q2, Bfs A t d2 Q2 ∧ 2 * und d2 + Q2.length ≤ 2 * und d + Q.length
  | 0, k, d, Q, hk, _, h => by
    obtain rfl : k = 17 := by omega
    exact ⟨d, Q, h.done hA, Nat.le_refl _⟩
  | j + 1, k, d, Q, hk, h1, h => by
    by_cases hc : d k = 17 ∧ A k a = true
    · obtain ⟨h2, h3⟩ := h.yes hc.1 hc.2 h1 (by omega)
      obtain ⟨d2, Q2, h4, h5⟩ := BfsIn.finish hA j (k + 1) _ _ (by omega) (by omega) h2
      refine ⟨d2, Q2, h4, ?_⟩
      rw [List.length_append, List.length_singleton] at h5
      omega
    · exact BfsIn.finish hA j (k + 1) _ _ (by omega) (by omega) (h.no hc)
theorem Bfs.finish {A : Nat → Nat → Bool} {t : Nat} (hA : ∀ p q, A p q = true → p ≤ 16) (h0 : ∀ a, A 0 a = false) : ∀ (m : Nat) (d : Nat → Nat) (Q : List Nat), 2 * und d + Q.length ≤ m → Bfs A t d Q → ∃ d2, IsDist A t d2
  | m, d, [], _, h => ⟨d, h.dist⟩
  | 0, d, a :: Q, hm, _ => by simp at hm
  | m + 1, d, a :: Q, hm, h => by
    obtain ⟨d2, Q2, h2, h3⟩ := BfsIn.finish hA 16 1 d Q rfl (Nat.le_refl _) (h.pop (h0 a))
    rw [List.length_cons] at hm
    exact Bfs.finish hA h0 m d2 Q2 (by omega) h2
/-- Distances there are. -/
theorem exists_dist {A : Nat → Nat → Bool} {t : Nat} (h1 : 1 ≤ t) (h2 : t ≤ 16) (hA : ∀ p q, A p q = true → p ≤ 16) (h0 : ∀ a, A 0 a = false) : ∃ d, IsDist A t d :=
  Bfs.finish hA h0 _ _ _ (Nat.le_refl _) (Bfs.start h1 h2)
end Go.Proofs.Ytglehneaphigdaa

/- How an argument's reading gives what a walk asks of it. -/
namespace Go.Proofs.Ytglehneaphigdaa
open Go.ChangeShapes Go.WideShapes Go.ChangeAt Go.RowKit

theorem ints_bytes : ∀ (zs : List Int), (∀ n ∈ zs, (Lit.int .u8 n).wf = true) → ∃ bs : List (BitVec 8), zs = bs.map I8
  | [], _ => ⟨[], rfl⟩
  | z :: zs, h => by
    obtain ⟨bs, rfl⟩ := ints_bytes zs (fun n hn => h n (List.mem_cons_of_mem _ hn))
    have hz := h z (List.mem_cons_self ..)
    have hb := bounds_u8 hz
    obtain ⟨b, rfl⟩ := exists_I8 z (by omega) (by omega)
    exact ⟨b :: bs, rfl⟩

theorem Rd.ofCells {w : World} {x : Addr} {xs : List Value} (h : ∀ i, (hi : i < xs.length) → w.cell? (x.add i) = some xs[i]) : Rd w (some x) xs := by
  obtain ⟨b, o, sp⟩ := x
  intro i hi
  have h0 := h 0 (by omega)
  have hsp : sp = none := by
    rcases sp with _ | s
    · rfl
    · simp only [Addr.add, if_true, World.cell?] at h0
      split at h0 <;> simp at h0
  subst hsp
  exact ⟨b, o, rfl, by rw [← addr_add]; exact h i hi⟩

/-- A slice of bytes that came in. -/
structure IsBytes (w : World) (a : Option Addr) (n c : Nat) (zs : List (BitVec 8)) : Prop where
  len : n = zs.length
  cap : n ≤ c
  max : c ≤ maxLen
  rd : Rd w a (zs.map B8)

theorem open_bytes {H : Type} {enc : TypeId × Value → H} {P : Program} {W : World} {held : Bool} {t e : TypeId} {v : Value} {d : DataW H} {p : List MemPlace} {r : Reach} {base : Nat}
    (ht : P.underlying t = some (.slice e)) (he : P.underlying e = some (.int .u8)) (hc : P.cellsOf e = 1) (hv : Value.okWide P W r base t v)
    (h : DataW.Trod enc P W 0 (fun _ => true) held t v d p) : ∃ a n c zs, v = .slice a n c ∧ IsBytes W a n c zs := by
  obtain ⟨a, n, c, rfl⟩ := okWide_slice ht hv
  obtain ⟨fuel, hf⟩ := h
  rcases open_ints ht he hc hf with ⟨hcs, _⟩ | ⟨x, l, c', zs, hcs, _, hl, hm, hz, _, hcell, hwz⟩
  · simp [Value.cells] at hcs
    obtain ⟨rfl, rfl, rfl⟩ := hcs
    exact ⟨none, 0, 0, [], rfl, rfl, Nat.le_refl _, by unfold maxLen; omega, Rd.nil _ _⟩
  · simp [Value.cells] at hcs
    obtain ⟨rfl, rfl, rfl⟩ := hcs
    obtain ⟨bs, rfl⟩ := ints_bytes zs hwz
    rw [if_pos rfl] at hz
    refine ⟨_, n, c, bs.take n, rfl, ?_, hl, hm, Rd.ofCells fun i hi => ?_⟩
    · simp at hz ⊢; omega
    · simp at hi hz
      rw [hcell i (by simp; omega)]
      simp [List.getD_eq_getElem?_getD, B8, show i < bs.length by omega]
end Go.Proofs.Ytglehneaphigdaa

/- Arguments of whatever type, opened: a value's cells are those of its parts, one behind the other; a slice's elements likewise, however deep. -/
namespace Go.Proofs.Ytglehneaphigdaa
open Go.ChangeShapes Go.WideShapes Go.ChangeAt Go.RowKit
set_option linter.unusedSimpArgs false

/-- The parts of fields, one behind the other; none, if they do not lie so. -/
def flatFs (P : Program) (g : TypeId → Option (List TypeId)) : Nat → List Field → Option (List TypeId)
  | _, [] => some []
  | o, f :: fs => (g f.type).bind fun ts => if f.offset = o ∧ ts.length = P.cellsOf f.type then (flatFs P g (o + ts.length) fs).map (ts ++ ·) else none
def repFlat (ts : List TypeId) : Nat → List TypeId
  | 0 => []
  | n + 1 => ts ++ repFlat ts n
/-- The one-cell parts of a type. -/
def flat (P : Program) : Nat → TypeId → Option (List TypeId)
  | 0, _ => none
  | d + 1, t => match P.underlying t with
    | some (.int _) => some [t]
    | some .bool => some [t]
    | some (.slice _) => some [t]
    | some (.struct fs) => (flatFs P (flat P d) 0 fs.toList).bind fun ts => if ts.length = P.cellsOf t then some ts else none
    | some (.array n e) => (flat P d e).bind fun ts => if ts.length = P.cellsOf e ∧ n * ts.length = P.cellsOf t then some (repFlat ts n) else none
    | _ => none
section
variable {H : Type} {enc : TypeId × Value → H} {P : Program} {w : World} {base : Nat} {spare : Nat → Bool} {held : Bool}
/-- What a cell of such a part holds. -/
def PartOk (enc : TypeId × Value → H) (P : Program) (w : World) (base : Nat) (spare : Nat → Bool) (held : Bool) (u : TypeId) (v : Value) : Prop := ∃ m y, DataW.trod enc P w base spare held m u [v] = some y
theorem flatFs_spec {g : TypeId → Option (List TypeId)}
    (hg : ∀ (t : TypeId) (ts : List TypeId), g t = some ts → ∀ (fuel : Nat) (cs : List Value) (x : DataW H × List MemPlace), DataW.trod enc P w base spare held fuel t cs = some x → cs.length = ts.length ∧ ∀ (i : Nat) (u : TypeId), ts[i]? = some u → ∃ v, cs[i]? = some v ∧ PartOk enc P w base spare held u v) (cs : List Value) :
    ∀ (fs : List Field) (o : Nat) (ts : List TypeId), flatFs P g o fs = some ts → (∀ f ∈ fs, ∃ n y, DataW.trod enc P w base spare held n f.type ((cs.drop f.offset).take (P.cellsOf f.type)) = some y) →
      ∀ (i : Nat) (u : TypeId), ts[i]? = some u → ∃ v, cs[o + i]? = some v ∧ PartOk enc P w base spare held u v := by
  intro fs
  induction fs with
  | nil =>
    intro o ts h _ i u hu
    simp [flatFs] at h
    subst h
    simp at hu
  | cons f fs ih =>
    intro o ts h hall i u hu
    simp only [flatFs, Option.bind_eq_some_iff] at h
    obtain ⟨t1, h1, h2⟩ := h
    split at h2
    · rename_i hc
      obtain ⟨t2, h3, rfl⟩ := Option.map_eq_some_iff.1 h2
      obtain ⟨n, y, hy⟩ := hall f (List.mem_cons_self ..)
      obtain ⟨hl, hp⟩ := hg _ _ h1 _ _ _ hy
      by_cases hi : i < t1.length
      · rw [List.getElem?_append_left hi] at hu
        obtain ⟨v, hv, hk⟩ := hp i u hu
        refine ⟨v, ?_, hk⟩
        rw [hc.1, List.getElem?_take] at hv
        split at hv
        · rw [List.getElem?_drop] at hv; exact hv
        · cases hv
      · rw [List.getElem?_append_right (by omega)] at hu
        obtain ⟨v, hv, hk⟩ := ih _ _ h3 (fun f hf => hall f (List.mem_cons_of_mem _ hf)) _ _ hu
        exact ⟨v, by rw [← hv]; congr 1; omega, hk⟩
    · cases h2
theorem repFlat_len (ts : List TypeId) : ∀ n, (repFlat ts n).length = n * ts.length
  | 0 => by simp [repFlat]
  | n + 1 => by simp [repFlat, repFlat_len ts n, Nat.add_mul]; omega
theorem repFlat_spec {cs : List Value} {ts : List TypeId} {L : Nat} (hL : ts.length = L) (e : TypeId) :
    ∀ (n k : Nat), (∀ (i : Nat), i < n → ∀ (j : Nat) (u : TypeId), ts[j]? = some u → ∃ v, ((cs.drop ((k + i) * L)).take L)[j]? = some v ∧ PartOk enc P w base spare held u v) →
      ∀ (i : Nat) (u : TypeId), (repFlat ts n)[i]? = some u → ∃ v, cs[k * L + i]? = some v ∧ PartOk enc P w base spare held u v := by
  intro n
  induction n with
  | zero => intro k _ i u hu; simp [repFlat] at hu
  | succ n ih =>
    intro k hall i u hu
    simp only [repFlat] at hu
    by_cases hi : i < ts.length
    · rw [List.getElem?_append_left hi] at hu
      obtain ⟨v, hv, hk⟩ := hall 0 (by omega) i u hu
      refine ⟨v, ?_, hk⟩
      rw [List.getElem?_take] at hv
      split at hv
      · rw [List.getElem?_drop] at hv; simpa using hv
      · cases hv
    · rw [List.getElem?_append_right (by omega)] at hu
      obtain ⟨v, hv, hk⟩ := ih (k + 1) (fun i hi j u hu => by have := hall (i + 1) (by omega) j u hu; rwa [show k + (i + 1) = k + 1 + i by omega] at this) _ _ hu
      exact ⟨v, by rw [← hv]; congr 1; rw [Nat.add_mul]; omega, hk⟩
theorem flat_spec : ∀ (d : Nat) (t : TypeId) (ts : List TypeId), flat P d t = some ts → ∀ (fuel : Nat) (cs : List Value) (x : DataW H × List MemPlace), DataW.trod enc P w base spare held fuel t cs = some x →
    cs.length = ts.length ∧ ∀ (i : Nat) (u : TypeId), ts[i]? = some u → ∃ v, cs[i]? = some v ∧ PartOk enc P w base spare held u v := by
  intro d
  induction d with
  | zero => intro t ts h; simp [flat] at h
  | succ d ih =>
    intro t ts h fuel cs x hx
    have one : ∀ v, cs = [v] → ts = [t] → cs.length = ts.length ∧ ∀ (i : Nat) (u : TypeId), ts[i]? = some u → ∃ v, cs[i]? = some v ∧ PartOk enc P w base spare held u v := by
      rintro v rfl rfl
      refine ⟨rfl, fun i u hu => ?_⟩
      rcases i with _ | i
      · simp at hu; subst hu; exact ⟨v, rfl, _, _, hx⟩
      · simp at hu
    unfold flat at h
    split at h
    · rename_i k hk
      obtain ⟨n, rfl, _⟩ := DataW.trod_int hk hx
      exact one _ rfl (by simpa using h.symm)
    · rename_i hk
      obtain ⟨n, rfl, _⟩ := DataW.trod_bool hk hx
      exact one _ rfl (by simpa using h.symm)
    · rename_i e hk
      rcases DataW.trod_slice hk hx with ⟨rfl, _⟩ | ⟨a, len, cap, elems, rest, n, _, rfl, _⟩
      · exact one _ rfl (by simpa using h.symm)
      · exact one _ rfl (by simpa using h.symm)
    · rename_i fs hk
      simp only [Option.bind_eq_some_iff] at h
      obtain ⟨t1, h1, h2⟩ := h
      split at h2
      · rename_i hl
        cases h2
        obtain ⟨xs, m, _, _, hlen, hxs, hf⟩ := DataW.trod_struct hk hx
        refine ⟨by rw [hlen, hl], fun i u hu => ?_⟩
        have := flatFs_spec (fun t ts h => ih t ts h) cs fs.toList 0 ts h1 (fun f hf' => by
          obtain ⟨j, hj, rfl⟩ := List.getElem_of_mem hf'
          have hj' : j < fs.size := by simpa using hj
          have h3 := hf j fs[j] (by simp [hj'])
          have hj2 : j < xs.length := by omega
          exact ⟨m, xs[j], by simpa [hj2] using h3⟩) i u hu
        simpa using this
      · cases h2
    · rename_i n e hk
      simp only [Option.bind_eq_some_iff] at h
      obtain ⟨t1, h1, h2⟩ := h
      split at h2
      · rename_i hl
        cases h2
        obtain ⟨xs, m, _, _, hlen, hxs, hf⟩ := DataW.trod_array hk hx
        refine ⟨by rw [hlen, repFlat_len, hl.2], fun i u hu => ?_⟩
        have := repFlat_spec (cs := cs) hl.1 e n 0 (fun i hi j u hu => by
          have h3 := hf i hi
          have hi2 : i < xs.length := by omega
          have h4 : DataW.trod enc P w base spare held m e ((cs.drop (i * P.cellsOf e)).take (P.cellsOf e)) = some xs[i] := by rw [h3]; simp [hi2]
          rw [Nat.zero_add]
          exact (ih e t1 h1 _ _ _ h4).2 j u hu) i u hu
        simpa using this
      · cases h2
    · cases h

theorem add_add (a : Addr) (m k : Nat) : (a.add m).add k = a.add (m + k) := by
  unfold Addr.add
  by_cases hm : m = 0
  · subst hm; simp
  · by_cases hk : k = 0
    · subst hk; simp
    · simp [hm, hk]; omega
/-- What a one-cell part holds, d slices deep. -/
def LeafOk (P : Program) (w : World) : Nat → TypeId → Value → Prop
  | 0, _, _ => True
  | d + 1, u, v => match P.underlying u with
    | some (.int k) => ∃ n, v = .int k n ∧ (Lit.int k n).wf = true
    | some .bool => ∃ b, v = .bool b
    | some (.slice e) => ∃ a n c xs, v = .slice a n c ∧ n ≤ c ∧ c ≤ maxLen ∧ xs.length = n * P.cellsOf e ∧ Rd w a xs ∧ (a = none → n = 0 ∧ c = 0) ∧
        ∀ ts : List TypeId, flat P 9 e = some ts → ∀ (i j : Nat) (u' : TypeId), i < n → ts[j]? = some u' → ∃ v', xs[i * P.cellsOf e + j]? = some v' ∧ LeafOk P w d u' v'
    | _ => True
theorem cells_get {a : Addr} {n : Nat} {cs : List Value} (h : w.cells? 0 a n = some cs) : cs.length = n ∧ ∀ i, i < n → w.cell? (a.add i) = cs[i]? := by
  unfold World.cells? at h
  rw [if_pos (Nat.zero_le _)] at h
  refine ⟨by simpa using mapM_some_length h, fun i hi => ?_⟩
  have := mapM_some_get h i i (by simp [hi])
  exact this
theorem leaf_ok : ∀ (d : Nat) (u : TypeId) (v : Value), PartOk enc P w 0 (fun _ => true) held u v → LeafOk P w d u v := by
  intro d
  induction d with
  | zero => intros; trivial
  | succ d ih =>
    intro u v h
    obtain ⟨m, y, hy⟩ := h
    unfold LeafOk
    split
    · rename_i k hk
      obtain ⟨n, hv, _, hw⟩ := DataW.trod_int hk hy
      simp at hv
      exact ⟨n, hv, hw⟩
    · rename_i hk
      obtain ⟨b, hv, _⟩ := DataW.trod_bool hk hy
      simp at hv
      exact ⟨b, hv⟩
    · rename_i e hk
      rcases DataW.trod_slice hk hy with ⟨hv, _⟩ | ⟨a, len, cap, elems, rest, n, _, hv, _, _, hl, hm, hlen, hel, _, _⟩
      · simp at hv
        exact ⟨none, 0, 0, [], hv, Nat.le_refl _, by unfold maxLen; omega, by simp, Rd.nil _ _, fun _ => ⟨rfl, rfl⟩, fun ts hts i j u' hi => by omega⟩
      · simp at hv
        have each : ∀ i, i < len → ∃ cs y, w.cells? 0 (a.add (i * P.cellsOf e)) (P.cellsOf e) = some cs ∧ DataW.trod enc P w 0 (fun _ => true) held n e cs = some y := by
          intro i hi
          have h1 := hel i hi
          have hi2 : i < elems.length := by omega
          rw [List.getElem?_eq_getElem hi2] at h1
          obtain ⟨cs, h2, h3⟩ := Option.bind_eq_some_iff.1 h1
          exact ⟨cs, _, h2, h3⟩
        have cell : ∀ k, k < len * P.cellsOf e → ∃ x, w.cell? (a.add k) = some x := by
          intro k hk'
          have hpos : 0 < P.cellsOf e := Nat.pos_of_ne_zero fun h => by rw [h] at hk'; simp at hk'
          have hi : k / P.cellsOf e < len := by rw [Nat.div_lt_iff_lt_mul hpos]; exact hk'
          obtain ⟨cs, _, h1, _⟩ := each _ hi
          obtain ⟨hl, hg⟩ := cells_get h1
          have hm := Nat.mod_lt k hpos
          have := hg _ hm
          rw [add_add, Nat.mul_comm, Nat.div_add_mod] at this
          exact ⟨cs[k % P.cellsOf e], by rw [this]; simp [hl, hm]⟩
        have hxl : ((List.range (len * P.cellsOf e)).map fun j => (w.cell? (a.add j)).getD undef).length = len * P.cellsOf e := by simp
        have hget : ∀ k, k < len * P.cellsOf e → ((List.range (len * P.cellsOf e)).map fun j => (w.cell? (a.add j)).getD undef)[k]? = w.cell? (a.add k) := by
          intro k hk'
          obtain ⟨x, hx⟩ := cell k hk'
          simp [hk', hx]
        refine ⟨some a, len, cap, _, hv, hl, hm, hxl, Rd.ofCells fun k hk' => ?_, (fun h => by cases h), fun ts hts i j u' hi hj => ?_⟩
        · rw [hxl] at hk'
          rw [← hget k hk']
          exact List.getElem?_eq_getElem _
        · obtain ⟨cs, y', h1, h2⟩ := each i hi
          obtain ⟨hl, hg⟩ := cells_get h1
          obtain ⟨hlen2, hp⟩ := flat_spec 9 e ts hts _ _ _ h2
          obtain ⟨v', hv', hk'⟩ := hp j u' hj
          have hjl : j < P.cellsOf e := by have := (List.getElem?_eq_some_iff.1 hj).1; omega
          have hb : i * P.cellsOf e + j < len * P.cellsOf e := by
            have := Nat.mul_le_mul_right (P.cellsOf e) (show i + 1 ≤ len by omega)
            rw [Nat.add_mul] at this
            omega
          refine ⟨v', ?_, ih _ _ hk'⟩
          rw [hget _ hb, ← add_add, hg j hjl]
          exact hv'
    · trivial
/-- A value of a type whose parts lie one behind the other: its cells. -/
theorem open_flat {r : Reach} {b0 : Nat} {t : TypeId} {v : Value} {d : DataW H} {p : List MemPlace} {ts : List TypeId} (hs : (∃ fs, P.underlying t = some (.struct fs)) ∨ ∃ n e, P.underlying t = some (.array n e)) (hf : flat P 9 t = some ts)
    (hv : Value.okWide P w r b0 t v) (h : DataW.Trod enc P w 0 (fun _ => true) held t v d p) : ∃ cs : Array Value, v = .agg cs ∧ cs.size = ts.length ∧ ∀ (i : Nat) (u : TypeId), ts[i]? = some u → ∃ x, cs[i]? = some x ∧ ∀ d, LeafOk P w d u x := by
  have hcs : ∃ cs, v = .agg cs ∧ cs.size = P.cellsOf t := by
    unfold Value.okWide at hv
    rcases hs with ⟨fs, hs⟩ | ⟨n, e, hs⟩ <;> rw [hs] at hv <;> obtain ⟨cs, h1, h2, _⟩ := hv <;> exact ⟨cs, h1, h2⟩
  obtain ⟨cs, rfl, _⟩ := hcs
  obtain ⟨fuel, h1⟩ := h
  obtain ⟨hl, hp⟩ := flat_spec 9 t ts hf _ _ _ h1
  simp only [Value.cells] at hl hp
  refine ⟨cs, rfl, by simpa using hl, fun i u hu => ?_⟩
  obtain ⟨x, hx, hk⟩ := hp i u hu
  exact ⟨x, by simpa using hx, fun d => leaf_ok d u x hk⟩
/-- A slice's value, d slices deep. -/
theorem open_sl {r : Reach} {b0 : Nat} {t e : TypeId} {v : Value} {dd : DataW H} {p : List MemPlace} (hs : P.underlying t = some (.slice e)) (hv : Value.okWide P w r b0 t v) (h : DataW.Trod enc P w 0 (fun _ => true) held t v dd p) (d : Nat) : LeafOk P w d t v := by
  obtain ⟨a, n, c, rfl⟩ := okWide_slice hs hv
  obtain ⟨fuel, h1⟩ := h
  exact leaf_ok d t _ ⟨fuel, _, h1⟩
theorem leaf_int {u : TypeId} {k : IntKind} {v : Value} (hu : P.underlying u = some (.int k)) (h : ∀ d, LeafOk P w d u v) : ∃ n, v = .int k n ∧ (Lit.int k n).wf = true := by
  have h := h 1
  unfold LeafOk at h
  rw [hu] at h
  exact h
theorem leaf_bool {u : TypeId} {v : Value} (hu : P.underlying u = some .bool) (h : ∀ d, LeafOk P w d u v) : ∃ b, v = .bool b := by
  have h := h 1
  unfold LeafOk at h
  rw [hu] at h
  exact h
theorem leaf_slice {u e : TypeId} {v : Value} (hu : P.underlying u = some (.slice e)) {ts : List TypeId} (hf : flat P 9 e = some ts) (h : ∀ d, LeafOk P w d u v) :
    ∃ a n c xs, v = .slice a n c ∧ n ≤ c ∧ c ≤ maxLen ∧ xs.length = n * P.cellsOf e ∧ Rd w a xs ∧ (a = none → n = 0 ∧ c = 0) ∧ ∀ (i j : Nat) (u' : TypeId), i < n → ts[j]? = some u' → ∃ v', xs[i * P.cellsOf e + j]? = some v' ∧ ∀ d, LeafOk P w d u' v' := by
  have h1 := h 1
  unfold LeafOk at h1
  rw [hu] at h1
  obtain ⟨a, n, c, xs, rfl, hn, hc, hl, hr, h0, hp⟩ := h1
  refine ⟨a, n, c, xs, rfl, hn, hc, hl, hr, h0, fun i j u' hi hj => ?_⟩
  obtain ⟨v', hv', _⟩ := hp ts hf i j u' hi hj
  refine ⟨v', hv', fun d => ?_⟩
  have h2 := h (d + 1)
  unfold LeafOk at h2
  rw [hu] at h2
  obtain ⟨a2, n2, c2, xs2, he, _, _, hl2, hr2, _, hp2⟩ := h2
  simp only [Value.slice.injEq] at he
  obtain ⟨rfl, rfl, rfl⟩ := he
  obtain ⟨v2, hv2, hk⟩ := hp2 ts hf i j u' hi hj
  have e1 : xs2 = xs := by
    apply List.ext_getElem (by rw [hl2, hl])
    intro m h3 h4
    obtain ⟨b, o, e5, h5⟩ := hr m h4
    obtain ⟨b', o', e6, h6⟩ := hr2 m h3
    rw [e5] at e6
    simp only [Option.some.injEq, Addr.mk.injEq] at e6
    obtain ⟨rfl, rfl, _⟩ := e6
    rw [h5] at h6
    exact (Option.some.inj h6).symm
  subst e1
  rw [hv'] at hv2
  cases hv2
  exact hk
end
end Go.Proofs.Ytglehneaphigdaa

/- Flows as arguments: one, and lists of them. -/
namespace Go.Proofs.Ytglehneaphigdaa
open Go.ChangeShapes Go.WideShapes Go.ChangeAt Go.RowKit
set_option linter.unusedVariables false
set_option maxRecDepth 100000
theorem flat_flow : flat Try.prog 9 35 = some [33, 33, 2] := by kernel_rfl
theorem leaf_party {w : World} {v : Value} (h : ∀ d, LeafOk Try.prog w d 33 v) : ∃ n : Nat, v = .int .u8 n ∧ n ≤ 255 := by
  obtain ⟨n, rfl, hw⟩ := leaf_int Try.underlying33 h
  have := bounds_u8 hw
  exact ⟨n.toNat, by rw [Int.toNat_of_nonneg this.1], by omega⟩
theorem leaf_i64 {w : World} {v : Value} (h : ∀ d, LeafOk Try.prog w d 2 v) : ∃ n : Int, v = .int .i64 n ∧ -9223372036854775808 ≤ n ∧ n ≤ 9223372036854775807 := by
  obtain ⟨n, rfl, hw⟩ := leaf_int Try.underlying2 h
  exact ⟨n, rfl, (bounds_i64 hw).1, (bounds_i64 hw).2⟩
def FlowArg (w : World) (v : Value) : Prop := ∃ x : Flw, v = .agg (flow x.f x.t x.n) ∧ FlwOk x
theorem open_flow {H : Type} {enc : TypeId × Value → H} {W : World} {held : Bool} {v : Value} {d : DataW H} {p : List MemPlace} {r : Reach} {b0 : Nat}
    (hval : Value.okWide Try.prog W r b0 35 v) (h : DataW.Trod enc Try.prog W 0 (fun _ => true) held 35 v d p) : FlowArg W v := by
  obtain ⟨cs, rfl, hn, hp⟩ := open_flat (.inl ⟨_, Try.underlying35⟩) flat_flow hval h
  obtain ⟨x0, h0, k0⟩ := hp 0 _ rfl
  obtain ⟨x1, h1, k1⟩ := hp 1 _ rfl
  obtain ⟨x2, h2, k2⟩ := hp 2 _ rfl
  obtain ⟨a, rfl, ha⟩ := leaf_party k0
  obtain ⟨b, rfl, hb⟩ := leaf_party k1
  obtain ⟨n, rfl, hn0, hn1⟩ := leaf_i64 k2
  obtain ⟨l⟩ := cs
  refine ⟨⟨a, b, n⟩, ?_, ha, hb, hn0, hn1⟩
  match l, hn with
  | [c0, c1, c2], _ => simp at h0 h1 h2; subst_vars; rfl
/-- A list of flows that came in. -/
structure FlowsArg (w : World) (a : Option Addr) (n c : Nat) (F : List Flw) : Prop where
  len : F.length = n
  cap : n ≤ c
  max : c ≤ maxLen
  rd : Rd w a (flwL F)
  ok : ∀ x ∈ F, FlwOk x
theorem flow_cellsOf : Try.prog.cellsOf 35 = 3 := by kernel_rfl
theorem flows_of {w : World} : ∀ (n : Nat) (xs : List Value), xs.length = n * 3 → (∀ (i j : Nat) (u : TypeId), i < n → ([33, 33, 2] : List TypeId)[j]? = some u → ∃ v, xs[i * 3 + j]? = some v ∧ ∀ d, LeafOk Try.prog w d u v) → ∃ F : List Flw, F.length = n ∧ xs = flwL F ∧ ∀ x ∈ F, FlwOk x
  | 0, xs, hl, _ => ⟨[], rfl, by simpa [flwL] using hl, by simp⟩
  | n + 1, xs, hl, h => by
    rcases xs with _ | ⟨c0, _ | ⟨c1, _ | ⟨c2, ys⟩⟩⟩
    · simp at hl
    · simp at hl; omega
    · simp at hl; omega
    · obtain ⟨x0, h0, k0⟩ := h 0 0 _ (by omega) rfl
      obtain ⟨x1, h1, k1⟩ := h 0 1 _ (by omega) rfl
      obtain ⟨x2, h2, k2⟩ := h 0 2 _ (by omega) rfl
      simp at h0 h1 h2
      subst h0 h1 h2
      obtain ⟨a, rfl, ha⟩ := leaf_party k0
      obtain ⟨b, rfl, hb⟩ := leaf_party k1
      obtain ⟨m, rfl, hn0, hn1⟩ := leaf_i64 k2
      obtain ⟨F, hF, rfl, hok⟩ := flows_of n ys (by simp at hl; omega) (fun i j u hi hj => by
        obtain ⟨v, hv, hk⟩ := h (i + 1) j u (by omega) hj
        refine ⟨v, ?_, hk⟩
        rw [show (i + 1) * 3 + j = (i * 3 + j) + 3 by omega] at hv
        simpa using hv)
      exact ⟨⟨a, b, m⟩ :: F, by simp [hF], by simp [flwL, flwV], fun x hx => by
        rcases List.mem_cons.1 hx with rfl | hx
        · exact ⟨ha, hb, hn0, hn1⟩
        · exact hok x hx⟩
theorem open_flows {H : Type} {enc : TypeId × Value → H} {W : World} {held : Bool} {v : Value} {d : DataW H} {p : List MemPlace} {r : Reach} {b0 : Nat}
    (hval : Value.okWide Try.prog W r b0 22 v) (h : DataW.Trod enc Try.prog W 0 (fun _ => true) held 22 v d p) : ∃ a n c F, v = .slice a n c ∧ FlowsArg W a n c F := by
  have hk := fun d => open_sl Try.underlying22 hval h d
  obtain ⟨a, n, c, xs, rfl, hn, hc, hl, hr, _, hp⟩ := leaf_slice Try.underlying22 flat_flow hk
  rw [flow_cellsOf] at hl hp
  obtain ⟨F, hF, rfl, hok⟩ := flows_of (w := W) n xs hl hp
  exact ⟨a, n, c, F, rfl, hF, hn, hc, hr, hok⟩
end Go.Proofs.Ytglehneaphigdaa

/- PathsLeast: its walk. -/
namespace Go.Proofs.Ytglehneaphigdaa
open Go.RowKit
set_option linter.unusedSimpArgs false
set_option linter.unusedVariables false
section
variable {W w : World} {l : List Thing}
set_option maxRecDepth 100000
set_option maxHeartbeats 2000000
theorem least_many (a : Option Addr) (n c f t : Nat) (h : 300 < n) (hn : n ≤ 9223372036854775807) (H : Heap W l w) : Calls Try.prog 8 #[.slice a n c, .int .u8 (f : Int), .int .u8 (t : Int)] w fun e w' => e = .returned (.bool true) ∧ Heap W l w' := by
  have L := fun (V : World) (H : Heap W l V) => lives06_H (W := W) (l := l) (w := V) H
  go_enter Try.func8, Try.ntmps8
  go_wp2_with (first | go_skip | ((with_reducible refine (L _ H).mono ?_); clear H; rintro _ _ ⟨rfl, H⟩))
  go_ret
  exact ⟨rfl, H⟩
theorem short_zero {f t : Nat} {L : List Nat} (h : IsShort (fun _ _ => 0) f t L) : L = [] := by
  rcases h with ⟨h, _⟩ | ⟨_, _, hne, d, hd, h, _⟩
  · exact h
  · obtain ⟨q, hA, _⟩ := hd.par f h hne
    exfalso
    unfold edge capOf at hA
    split at hA <;> simp at hA
theorem short_bad {c : Caps} {f t : Nat} {L : List Nat} (h : IsShort c f t L) (hb : mayP f = false ∨ mayP t = false ∨ f = t) : L = [] := by
  rcases h with ⟨h, _⟩ | ⟨h1, h2, hne, _⟩
  · exact h
  · rcases hb with hb | hb | hb
    · rw [h1] at hb; cases hb
    · rw [h2] at hb; cases hb
    · exact absurd hb hne
theorem least_none (a : Option Addr) (n c0 f t : Nat) (F : List Flw) (h : n ≤ 300) (hl : F.length = n) (hF : ∀ x ∈ F, FlwOk x) (hf : f ≤ 255) (ht : t ≤ 255) (R : ∀ w', Heap W l w' → Rd w' a (flwL F)) (hG : newG F = none) (H : Heap W l w) : Calls Try.prog 8 #[.slice a n c0, .int .u8 (f : Int), .int .u8 (t : Int)] w fun e w' => e = .returned (.bool true) ∧ Heap W l w' := by
  have L := fun (V : World) (H : Heap W l V) => lives06_H (W := W) (l := l) (w := V) H
  have N := new_H (W := W) (l := l) (w := w) a n c0 F hl (by omega) hF R H
  rw [hG] at N
  have S := fun (V : World) (H : Heap W l V) => short_H (W := W) (l := l) (w := V) (gv := .pointer none) f t hf ht CapsOf.nil H
  clear hl hF R hG H
  go_enter Try.func8, Try.ntmps8
  go_wp2_with (first | go_skip | ((with_reducible refine N.mono ?_); clear N; rintro _ _ ⟨rfl, H⟩))
  refine (S _ H).mono ?_
  clear H S
  rintro e w2 ⟨v, La, rfl, hs, H⟩
  obtain rfl := short_zero hs
  clear hs
  obtain ⟨av, cv, rfl⟩ := OwnT.form0 (H.ok _ List.mem_cons_self)
  replace H := H.tail
  go_wp2_with (first | go_skip | ((with_reducible refine (L _ H).mono ?_); clear H; rintro _ _ ⟨rfl, H⟩))
  go_ret
  exact ⟨rfl, H⟩
theorem least_bad (a : Option Addr) (n c0 f t : Nat) (F : List Flw) (c : Caps) (h : n ≤ 300) (hl : F.length = n) (hF : ∀ x ∈ F, FlwOk x) (hf : f ≤ 255) (ht : t ≤ 255) (R : ∀ w', Heap W l w' → Rd w' a (flwL F)) (hG : newG F = some c) (hb : mayP f = false ∨ mayP t = false ∨ f = t)
    (B : (((f : Int) == (t : Int)) = true) ∨ (((f : Int) == (t : Int)) = false ∧ f < 1) ∨ (((f : Int) == (t : Int)) = false ∧ 1 ≤ f ∧ 16 < f) ∨ (((f : Int) == (t : Int)) = false ∧ 1 ≤ f ∧ f ≤ 16 ∧ t < 1) ∨ (((f : Int) == (t : Int)) = false ∧ 1 ≤ f ∧ f ≤ 16 ∧ 1 ≤ t ∧ 16 < t)) (H : Heap W l w) :
    Calls Try.prog 8 #[.slice a n c0, .int .u8 (f : Int), .int .u8 (t : Int)] w fun e w' => e = .returned (.bool true) ∧ Heap W l w' := by
  have L := fun (V : World) (H : Heap W l V) => lives06_H (W := W) (l := l) (w := V) H
  have N := new_H (W := W) (l := l) (w := w) a n c0 F hl (by omega) hF R H
  rw [hG] at N
  have S := fun (p : Nat) (V : World) (H : Heap W (Gr p c :: l) V) => short_H (W := W) (l := Gr p c :: l) (w := V) (gv := .pointer (some ⟨p, 0, none⟩)) f t hf ht (CapsOf.gr List.mem_cons_self) H
  clear hl hF R hG H
  have HB := Lib.hid hb
  clear hb
  rcases B with B | ⟨B, b1⟩ | ⟨B, b1, b2⟩ | ⟨B, b1, b2, b3⟩ | ⟨B, b1, b2, b3, b4⟩
  all_goals
    go_enter Try.func8, Try.ntmps8
    go_wp2_with (first | go_skip | ((with_reducible refine N.mono ?_); clear N; rintro _ _ ⟨p, rfl, H⟩))
    refine (S _ _ H).mono ?_
    clear H S
    rintro e w2 ⟨v, La, rfl, hs, H⟩
    obtain rfl := short_bad hs HB.out
    clear hs
    obtain ⟨av, cv, rfl⟩ := OwnT.form0 (H.ok _ List.mem_cons_self)
    replace H := H.tail.tail
    go_wp2_with (first | go_skip | ((with_reducible refine (L _ H).mono ?_); clear H; rintro _ _ ⟨rfl, H⟩))
    go_ret
    exact ⟨rfl, H⟩
end
end Go.Proofs.Ytglehneaphigdaa
