/- Part 12 of what several laws stand on: Shape, Leaf, Open03, Made, OfL, LawGraphsPair, LedRoom. -/
import Derived.Test.YtgobnamhdkbbeaaPayGPart11
import Derived.Test.YtgobnamhdkbbeaaProg
import Derived.ProofKit
import Derived.OpenShut
import Derived.ChangeOld
import Derived.Lib.SmallJoins
/- Arguments of whatever type, opened: a value's cells are those of its parts, one behind the other; a slice's elements likewise, however deep. -/
namespace Go.Proofs.Ytgobnamhdkbbeaa
open Go.ChangeShapes Go.WideShapes Go.ChangeAt Go.RowKit
set_option linter.unusedVariables false
set_option linter.unusedSimpArgs false

/-- The parts of fields, one behind the other; none, if they do not lie so. -/
def flatFs (P : Program) (g : TypeId → Option (List TypeId)) : Nat → List Field → Option (List TypeId)
  | _, [] => some []
  | o, f :: fs => (g f.type).bind fun ts => if f.offset = o ∧ ts.length = P.cellsOf f.type then (flatFs P g (o + ts.length) fs).map (ts ++ ·) else none
def repFlat (ts : List TypeId) : Nat → List TypeId
  | 0 => []
  | n + 1 => ts ++ repFlat ts n
/-- The one-cell parts of a type. -/
def flat (P : Program) : Nat → TypeId → Option (List TypeId)
  | 0, _ => none
  | d + 1, t => match P.underlying t with
    | some (.int _) => some [t]
    | some .bool => some [t]
    | some (.slice _) => some [t]
    | some (.struct fs) => (flatFs P (flat P d) 0 fs.toList).bind fun ts => if ts.length = P.cellsOf t then some ts else none
    | some (.array n e) => (flat P d e).bind fun ts => if ts.length = P.cellsOf e ∧ n * ts.length = P.cellsOf t then some (repFlat ts n) else none
    | _ => none
section
variable {H : Type} {enc : TypeId × Value → H} {P : Program} {w : World} {base : Nat} {spare : Nat → Bool} {held : Bool}
/-- What a cell of such a part holds. -/
def PartOk (enc : TypeId × Value → H) (P : Program) (w : World) (base : Nat) (spare : Nat → Bool) (held : Bool) (u : TypeId) (v : Value) : Prop := ∃ m y, DataW.trod enc P w base spare held m u [v] = some y
theorem flatFs_spec {g : TypeId → Option (List TypeId)}
    (hg : ∀ (t : TypeId) (ts : List TypeId), g t = some ts → ∀ (fuel : Nat) (cs : List Value) (x : DataW H × List MemPlace), DataW.trod enc P w base spare held fuel t cs = some x → cs.length = ts.length ∧ ∀ (i : Nat) (u : TypeId), ts[i]? = some u → ∃ v, cs[i]? = some v ∧ PartOk enc P w base spare held u v) (cs : List Value) :
    ∀ (fs : List Field) (o : Nat) (ts : List TypeId), flatFs P g o fs = some ts → (∀ f ∈ fs, ∃ n y, DataW.trod enc P w base spare held n f.type ((cs.drop f.offset).take (P.cellsOf f.type)) = some y) →
      ∀ (i : Nat) (u : TypeId), ts[i]? = some u → ∃ v, cs[o + i]? = some v ∧ PartOk enc P w base spare held u v := by
  intro fs
  induction fs with
  | nil =>
    intro o ts h _ i u hu
    simp [flatFs] at h
    subst h
    simp at hu
  | cons f fs ih =>
    intro o ts h hall i u hu
    simp only [flatFs, Option.bind_eq_some_iff] at h
    obtain ⟨t1, h1, h2⟩ := h
    split at h2
    · rename_i hc
      obtain ⟨t2, h3, rfl⟩ := Option.map_eq_some_iff.1 h2
      obtain ⟨n, y, hy⟩ := hall f (List.mem_cons_self ..)
      obtain ⟨hl, hp⟩ := hg _ _ h1 _ _ _ hy
      by_cases hi : i < t1.length
      · rw [List.getElem?_append_left hi] at hu
        obtain ⟨v, hv, hk⟩ := hp i u hu
        refine ⟨v, ?_, hk⟩
        rw [hc.1, List.getElem?_take] at hv
        split at hv
        · rw [List.getElem?_drop] at hv; exact hv
        · cases hv
      · rw [List.getElem?_append_right (by omega)] at hu
        obtain ⟨v, hv, hk⟩ := ih _ _ h3 (fun f hf => hall f (List.mem_cons_of_mem _ hf)) _ _ hu
        exact ⟨v, by rw [← hv]; congr 1; omega, hk⟩
    · cases h2
theorem repFlat_len (ts : List TypeId) : ∀ n, (repFlat ts n).length = n * ts.length
  | 0 => by simp [repFlat]
  | n + 1 => by simp [repFlat, repFlat_len ts n, Nat.add_mul]; omega
theorem repFlat_spec {cs : List Value} {ts : List TypeId} {L : Nat} (hL : ts.length = L) (e : TypeId) :
    ∀ (n k : Nat), (∀ (i : Nat), i < n → ∀ (j : Nat) (u : TypeId), ts[j]? = some u → ∃ v, ((cs.drop ((k + i) * L)).take L)[j]? = some v ∧ PartOk enc P w base spare held u v) →
      ∀ (i : Nat) (u : TypeId), (repFlat ts n)[i]? = some u → ∃ v, cs[k * L + i]? = some v ∧ PartOk enc P w base spare held u v := by
  intro n
  induction n with
  | zero => intro k _ i u hu; simp [repFlat] at hu
  | succ n ih =>
    intro k hall i u hu
    simp only [repFlat] at hu
    by_cases hi : i < ts.length
    · rw [List.getElem?_append_left hi] at hu
      obtain ⟨v, hv, hk⟩ := hall 0 (by omega) i u hu
      refine ⟨v, ?_, hk⟩
      rw [List.getElem?_take] at hv
      split at hv
      · rw [List.getElem?_drop] at hv; simpa using hv
      · cases hv
    · rw [List.getElem?_append_right (by omega)] at hu
      obtain ⟨v, hv, hk⟩ := ih (k + 1) (fun i hi j u hu => by have := hall (i + 1) (by omega) j u hu; rwa [show k + (i + 1) = k + 1 + i by omega] at this) _ _ hu
      exact ⟨v, by rw [← hv]; congr 1; rw [Nat.add_mul]; omega, hk⟩
theorem flat_spec : ∀ (d : Nat) (t : TypeId) (ts : List TypeId), flat P d t = some ts → ∀ (fuel : Nat) (cs : List Value) (x : DataW H × List MemPlace), DataW.trod enc P w base spare held fuel t cs = some x →
    cs.length = ts.length ∧ ∀ (i : Nat) (u : TypeId), ts[i]? = some u → ∃ v, cs[i]? = some v ∧ PartOk enc P w base spare held u v := by
  intro d
  induction d with
  | zero => intro t ts h; simp [flat] at h
  | succ d ih =>
    intro t ts h fuel cs x hx
    have one : ∀ v, cs = [v] → ts = [t] → cs.length = ts.length ∧ ∀ (i : Nat) (u : TypeId), ts[i]? = some u → ∃ v, cs[i]? = some v ∧ PartOk enc P w base spare held u v := by
      rintro v rfl rfl
      refine ⟨rfl, fun i u hu => ?_⟩
      rcases i with _ | i
      · simp at hu; subst hu; exact ⟨v, rfl, _, _, hx⟩
      · simp at hu
    unfold flat at h
    split at h
    · rename_i k hk
      obtain ⟨n, rfl, _⟩ := DataW.trod_int hk hx
      exact one _ rfl (by simpa using h.symm)
    · rename_i hk
      obtain ⟨n, rfl, _⟩ := DataW.trod_bool hk hx
      exact one _ rfl (by simpa using h.symm)
    · rename_i e hk
      rcases DataW.trod_slice hk hx with ⟨rfl, _⟩ | ⟨a, len, cap, elems, rest, n, _, rfl, _⟩
      · exact one _ rfl (by simpa using h.symm)
      · exact one _ rfl (by simpa using h.symm)
    · rename_i fs hk
      simp only [Option.bind_eq_some_iff] at h
      obtain ⟨t1, h1, h2⟩ := h
      split at h2
      · rename_i hl
        cases h2
        obtain ⟨xs, m, _, _, hlen, hxs, hf⟩ := DataW.trod_struct hk hx
        refine ⟨by rw [hlen, hl], fun i u hu => ?_⟩
        have := flatFs_spec (fun t ts h => ih t ts h) cs fs.toList 0 ts h1 (fun f hf' => by
          obtain ⟨j, hj, rfl⟩ := List.getElem_of_mem hf'
          have hj' : j < fs.size := by simpa using hj
          have h3 := hf j fs[j] (by simp [hj'])
          have hj2 : j < xs.length := by omega
          exact ⟨m, xs[j], by simpa [hj2] using h3⟩) i u hu
        simpa using this
      · cases h2
    · rename_i n e hk
      simp only [Option.bind_eq_some_iff] at h
      obtain ⟨t1, h1, h2⟩ := h
      split at h2
      · rename_i hl
        cases h2
        obtain ⟨xs, m, _, _, hlen, hxs, hf⟩ := DataW.trod_array hk hx
        refine ⟨by rw [hlen, repFlat_len, hl.2], fun i u hu => ?_⟩
        have := repFlat_spec (cs := cs) hl.1 e n 0 (fun i hi j u hu => by
          have h3 := hf i hi
          have hi2 : i < xs.length := by omega
          have h4 : DataW.trod enc P w base spare held m e ((cs.drop (i * P.cellsOf e)).take (P.cellsOf e)) = some xs[i] := by rw [h3]; simp [hi2]
          rw [Nat.zero_add]
          exact (ih e t1 h1 _ _ _ h4).2 j u hu) i u hu
        simpa using this
      · cases h2
    · cases h

theorem add_add (a : Addr) (m k : Nat) : (a.add m).add k = a.add (m + k) := by
  unfold Addr.add
  by_cases hm : m = 0
  · subst hm; simp
  · by_cases hk : k = 0
    · subst hk; simp
    · simp [hm, hk]; omega
/-- What a one-cell part holds, d slices deep. -/
def LeafOk (P : Program) (w : World) : Nat → TypeId → Value → Prop
  | 0, _, _ => True
  | d + 1, u, v => match P.underlying u with
    | some (.int k) => ∃ n, v = .int k n ∧ (Lit.int k n).wf = true
    | some .bool => ∃ b, v = .bool b
    | some (.slice e) => ∃ a n c xs, v = .slice a n c ∧ n ≤ c ∧ c ≤ maxLen ∧ xs.length = n * P.cellsOf e ∧ Rd w a xs ∧ (a = none → n = 0 ∧ c = 0) ∧
        ∀ ts : List TypeId, flat P 9 e = some ts → ∀ (i j : Nat) (u' : TypeId), i < n → ts[j]? = some u' → ∃ v', xs[i * P.cellsOf e + j]? = some v' ∧ LeafOk P w d u' v'
    | _ => True
theorem cells_get {a : Addr} {n : Nat} {cs : List Value} (h : w.cells? 0 a n = some cs) : cs.length = n ∧ ∀ i, i < n → w.cell? (a.add i) = cs[i]? := by
  unfold World.cells? at h
  rw [if_pos (Nat.zero_le _)] at h
  refine ⟨by simpa using mapM_some_length h, fun i hi => ?_⟩
  have := mapM_some_get h i i (by simp [hi])
  exact this
theorem leaf_ok : ∀ (d : Nat) (u : TypeId) (v : Value), PartOk enc P w 0 (fun _ => true) held u v → LeafOk P w d u v := by
  intro d
  induction d with
  | zero => intros; trivial
  | succ d ih =>
    intro u v h
    obtain ⟨m, y, hy⟩ := h
    unfold LeafOk
    split
    · rename_i k hk
      obtain ⟨n, hv, _, hw⟩ := DataW.trod_int hk hy
      simp at hv
      exact ⟨n, hv, hw⟩
    · rename_i hk
      obtain ⟨b, hv, _⟩ := DataW.trod_bool hk hy
      simp at hv
      exact ⟨b, hv⟩
    · rename_i e hk
      rcases DataW.trod_slice hk hy with ⟨hv, _⟩ | ⟨a, len, cap, elems, rest, n, _, hv, _, _, hl, hm, hlen, hel, _, _⟩
      · simp at hv
        exact ⟨none, 0, 0, [], hv, Nat.le_refl _, by unfold maxLen; omega, by simp, Rd.nil _ _, fun _ => ⟨rfl, rfl⟩, fun ts hts i j u' hi => by omega⟩
      · simp at hv
        have each : ∀ i, i < len → ∃ cs y, w.cells? 0 (a.add (i * P.cellsOf e)) (P.cellsOf e) = some cs ∧ DataW.trod enc P w 0 (fun _ => true) held n e cs = some y := by
          intro i hi
          have h1 := hel i hi
          have hi2 : i < elems.length := by omega
          rw [List.getElem?_eq_getElem hi2] at h1
          obtain ⟨cs, h2, h3⟩ := Option.bind_eq_some_iff.1 h1
          exact ⟨cs, _, h2, h3⟩
        have cell : ∀ k, k < len * P.cellsOf e → ∃ x, w.cell? (a.add k) = some x := by
          intro k hk'
          have hpos : 0 < P.cellsOf e := Nat.pos_of_ne_zero fun h => by rw [h] at hk'; simp at hk'
          have hi : k / P.cellsOf e < len := by rw [Nat.div_lt_iff_lt_mul hpos]; exact hk'
          obtain ⟨cs, _, h1, _⟩ := each _ hi
          obtain ⟨hl, hg⟩ := cells_get h1
          have hm := Nat.mod_lt k hpos
          have := hg _ hm
          rw [add_add, Nat.mul_comm, Nat.div_add_mod] at this
          exact ⟨cs[k % P.cellsOf e], by rw [this]; simp [hl, hm]⟩
        have hxl : ((List.range (len * P.cellsOf e)).map fun j => (w.cell? (a.add j)).getD undef).length = len * P.cellsOf e := by simp
        have hget : ∀ k, k < len * P.cellsOf e → ((List.range (len * P.cellsOf e)).map fun j => (w.cell? (a.add j)).getD undef)[k]? = w.cell? (a.add k) := by
          intro k hk'
          obtain ⟨x, hx⟩ := cell k hk'
          simp [hk', hx]
        refine ⟨some a, len, cap, _, hv, hl, hm, hxl, Rd.ofCells fun k hk' => ?_, (fun h => by cases h), fun ts hts i j u' hi hj => ?_⟩
        · rw [hxl] at hk'
          rw [← hget k hk']
          exact List.getElem?_eq_getElem _
        · obtain ⟨cs, y', h1, h2⟩ := each i hi
          obtain ⟨hl, hg⟩ := cells_get h1
          obtain ⟨hlen2, hp⟩ := flat_spec 9 e ts hts _ _ _ h2
          obtain ⟨v', hv', hk'⟩ := hp j u' hj
          have hjl : j < P.cellsOf e := by have := (List.getElem?_eq_some_iff.1 hj).1; omega
          have hb : i * P.cellsOf e + j < len * P.cellsOf e := by
            have := Nat.mul_le_mul_right (P.cellsOf e) (show i + 1 ≤ len by omega)
            rw [Nat.add_mul] at this
            omega
          refine ⟨v', ?_, ih _ _ hk'⟩
          rw [hget _ hb, ← add_add, hg j hjl]
          exact hv'
    · trivial
/-- A value of a type whose parts lie one behind the other: its cells. -/
theorem open_flat {r : Reach} {b0 : Nat} {t : TypeId} {v : Value} {d : DataW H} {p : List MemPlace} {ts : List TypeId} (hs : (∃ fs, P.underlying t = some (.struct fs)) ∨ ∃ n e, P.underlying t = some (.array n e)) (hf : flat P 9 t = some ts)
    (hv : Value.okWide P w r b0 t v) (h : DataW.Trod enc P w 0 (fun _ => true) held t v d p) : ∃ cs : Array Value, v = .agg cs ∧ cs.size = ts.length ∧ ∀ (i : Nat) (u : TypeId), ts[i]? = some u → ∃ x, cs[i]? = some x ∧ ∀ d, LeafOk P w d u x := by
  have hcs : ∃ cs, v = .agg cs ∧ cs.size = P.cellsOf t := by
    unfold Value.okWide at hv
    rcases hs with ⟨fs, hs⟩ | ⟨n, e, hs⟩ <;> rw [hs] at hv <;> obtain ⟨cs, h1, h2, _⟩ := hv <;> exact ⟨cs, h1, h2⟩
  obtain ⟨cs, rfl, _⟩ := hcs
  obtain ⟨fuel, h1⟩ := h
  obtain ⟨hl, hp⟩ := flat_spec 9 t ts hf _ _ _ h1
  simp only [Value.cells] at hl hp
  refine ⟨cs, rfl, by simpa using hl, fun i u hu => ?_⟩
  obtain ⟨x, hx, hk⟩ := hp i u hu
  exact ⟨x, by simpa using hx, fun d => leaf_ok d u x hk⟩
/-- A slice's value, d slices deep. -/
theorem open_sl {r : Reach} {b0 : Nat} {t e : TypeId} {v : Value} {dd : DataW H} {p : List MemPlace} (hs : P.underlying t = some (.slice e)) (hv : Value.okWide P w r b0 t v) (h : DataW.Trod enc P w 0 (fun _ => true) held t v dd p) (d : Nat) : LeafOk P w d t v := by
  obtain ⟨a, n, c, rfl⟩ := okWide_slice hs hv
  obtain ⟨fuel, h1⟩ := h
  exact leaf_ok d t _ ⟨fuel, _, h1⟩
theorem leaf_int {u : TypeId} {k : IntKind} {v : Value} (hu : P.underlying u = some (.int k)) (h : ∀ d, LeafOk P w d u v) : ∃ n, v = .int k n ∧ (Lit.int k n).wf = true := by
  have h := h 1
  unfold LeafOk at h
  rw [hu] at h
  exact h
theorem leaf_bool {u : TypeId} {v : Value} (hu : P.underlying u = some .bool) (h : ∀ d, LeafOk P w d u v) : ∃ b, v = .bool b := by
  have h := h 1
  unfold LeafOk at h
  rw [hu] at h
  exact h
theorem leaf_slice {u e : TypeId} {v : Value} (hu : P.underlying u = some (.slice e)) {ts : List TypeId} (hf : flat P 9 e = some ts) (h : ∀ d, LeafOk P w d u v) :
    ∃ a n c xs, v = .slice a n c ∧ n ≤ c ∧ c ≤ maxLen ∧ xs.length = n * P.cellsOf e ∧ Rd w a xs ∧ (a = none → n = 0 ∧ c = 0) ∧ ∀ (i j : Nat) (u' : TypeId), i < n → ts[j]? = some u' → ∃ v', xs[i * P.cellsOf e + j]? = some v' ∧ ∀ d, LeafOk P w d u' v' := by
  have h1 := h 1
  unfold LeafOk at h1
  rw [hu] at h1
  obtain ⟨a, n, c, xs, rfl, hn, hc, hl, hr, h0, hp⟩ := h1
  refine ⟨a, n, c, xs, rfl, hn, hc, hl, hr, h0, fun i j u' hi hj => ?_⟩
  obtain ⟨v', hv', _⟩ := hp ts hf i j u' hi hj
  refine ⟨v', hv', fun d => ?_⟩
  have h2 := h (d + 1)
  unfold LeafOk at h2
  rw [hu] at h2
  obtain ⟨a2, n2, c2, xs2, he, _, _, hl2, hr2, _, hp2⟩ := h2
  simp only [Value.slice.injEq] at he
  obtain ⟨rfl, rfl, rfl⟩ := he
  obtain ⟨v2, hv2, hk⟩ := hp2 ts hf i j u' hi hj
  have e1 : xs2 = xs := by
    apply List.ext_getElem (by rw [hl2, hl])
    intro m h3 h4
    obtain ⟨b, o, e5, h5⟩ := hr m h4
    obtain ⟨b', o', e6, h6⟩ := hr2 m h3
    rw [e5] at e6
    simp only [Option.some.injEq, Addr.mk.injEq] at e6
    obtain ⟨rfl, rfl, _⟩ := e6
    rw [h5] at h6
    exact (Option.some.inj h6).symm
  subst e1
  rw [hv'] at hv2
  cases hv2
  exact hk
end
end Go.Proofs.Ytgobnamhdkbbeaa

/- Leaves of arguments: parties, numbers. -/
namespace Go.Proofs.Ytgobnamhdkbbeaa
open Go.ChangeShapes Go.WideShapes Go.ChangeAt Go.RowKit
theorem leaf_party {w : World} {v : Value} (h : ∀ d, LeafOk Try.prog w d 30 v) : ∃ n : Nat, v = .int .u8 n ∧ n ≤ 255 := by
  obtain ⟨n, rfl, hw⟩ := leaf_int Try.underlying30 h
  have := bounds_u8 hw
  exact ⟨n.toNat, by rw [Int.toNat_of_nonneg this.1], by omega⟩
theorem leaf_i64 {w : World} {v : Value} (h : ∀ d, LeafOk Try.prog w d 2 v) : ∃ n : Int, v = .int .i64 n ∧ -9223372036854775808 ≤ n ∧ n ≤ 9223372036854775807 := by
  obtain ⟨n, rfl, hw⟩ := leaf_int Try.underlying2 h
  exact ⟨n, rfl, (bounds_i64 hw).1, (bounds_i64 hw).2⟩
end Go.Proofs.Ytgobnamhdkbbeaa

/- Acts on a ledger as arguments. -/
namespace Go.Proofs.Ytgobnamhdkbbeaa
open Go.ChangeShapes Go.WideShapes Go.ChangeAt Go.RowKit
set_option linter.unusedVariables false
set_option maxRecDepth 100000
theorem leaf_cur {w : World} {v : Value} (h : ∀ d, LeafOk Try.prog w d 23 v) : ∃ n : Nat, v = .int .u8 n ∧ n ≤ 255 := by
  obtain ⟨n, rfl, hw⟩ := leaf_int Try.underlying23 h
  have := bounds_u8 hw
  exact ⟨n.toNat, by rw [Int.toNat_of_nonneg this.1], by omega⟩
theorem leaf_u8 {w : World} {v : Value} (h : ∀ d, LeafOk Try.prog w d 5 v) : ∃ n : Nat, v = .int .u8 n ∧ n ≤ 255 := by
  obtain ⟨n, rfl, hw⟩ := leaf_int Try.underlying5 h
  have := bounds_u8 hw
  exact ⟨n.toNat, by rw [Int.toNat_of_nonneg this.1], by omega⟩
/-- An act on a ledger. -/
structure LAct where
  k : Nat
  a : Nat
  b : Nat
  c : Nat
  n : Int
abbrev act (k : Int) (a : Int) (b : Int) (c : Int) (n : Int) : Array Value := #[.int .u8 k, .int .u8 a, .int .u8 b, .int .u8 c, .int .i64 n]
section
variable (k : Int) (a : Int) (b : Int) (c : Int) (n : Int)
theorem act_sz : (act k a b c n).size = 5 := rfl
theorem act_g0 : (act k a b c n)[0]? = some (.int .u8 k) := rfl
theorem act_s0 (v : Int) : (act k a b c n).setIfInBounds 0 (.int .u8 v) = act v a b c n := rfl
theorem act_g1 : (act k a b c n)[1]? = some (.int .u8 a) := rfl
theorem act_s1 (v : Int) : (act k a b c n).setIfInBounds 1 (.int .u8 v) = act k v b c n := rfl
theorem act_g2 : (act k a b c n)[2]? = some (.int .u8 b) := rfl
theorem act_s2 (v : Int) : (act k a b c n).setIfInBounds 2 (.int .u8 v) = act k a v c n := rfl
theorem act_g3 : (act k a b c n)[3]? = some (.int .u8 c) := rfl
theorem act_s3 (v : Int) : (act k a b c n).setIfInBounds 3 (.int .u8 v) = act k a b v n := rfl
theorem act_g4 : (act k a b c n)[4]? = some (.int .i64 n) := rfl
theorem act_s4 (v : Int) : (act k a b c n).setIfInBounds 4 (.int .i64 v) = act k a b c v := rfl
end
def actV (x : LAct) : List Value := [.int .u8 (x.k : Int), .int .u8 (x.a : Int), .int .u8 (x.b : Int), .int .u8 (x.c : Int), .int .i64 x.n]
def actL (F : List LAct) : List Value := F.flatMap actV
theorem actL_len (F : List LAct) : (actL F).length = F.length * 5 := by
  induction F with
  | nil => rfl
  | cons x F ih => simp only [actL, List.flatMap_cons, List.length_append] at *; rw [ih]; simp [actV, Nat.add_mul]; omega
theorem actL_at (F : List LAct) (i : Nat) (h : i < F.length) : ((actL F).drop (i * 5)).take 5 = actV F[i] := by
  induction F generalizing i with
  | nil => simp at h
  | cons x F ih =>
    rcases i with _ | i
    · simp [actL, actV]
    · have : (i + 1) * 5 = 5 + i * 5 := by omega
      rw [this, ← List.drop_drop]
      simp only [List.length_cons] at h
      have := ih i (by omega)
      simpa [actL, actV] using this
abbrev actA (x : LAct) : Array Value := act (x.k : Int) (x.a : Int) (x.b : Int) (x.c : Int) x.n
theorem actL_row (F : List LAct) (i : Nat) (h : i < F.length) : (((actL F).drop (i * 5)).take 5).toArray = actA F[i] := by rw [actL_at F i h]; rfl
def ActOk (x : LAct) : Prop := x.k ≤ 255 ∧ x.a ≤ 255 ∧ x.b ≤ 255 ∧ x.c ≤ 255 ∧ (-9223372036854775808 ≤ x.n ∧ x.n ≤ 9223372036854775807)
theorem row_act : RowTy 59 5 (act 0 0 0 0 0) := ⟨⟨_, Try.underlying59, rfl⟩, by kernel_rfl, by kernel_rfl⟩
theorem act_all (k a b c n : Int) : (act k a b c n).extract 0 (0 + 5) = act k a b c n := by simp
theorem act_cells (k a b c n : Int) : Cells 5 (act k a b c n) := ⟨rfl, by simp [Value.oneCell']⟩
theorem act_splice (k a b c n k' a' b' c' n' : Int) : splice (act k a b c n) 0 (act k' a' b' c' n') = act k' a' b' c' n' := splice_all rfl
theorem flat_act : flat Try.prog 9 59 = some [5, 30, 30, 23, 2] := by kernel_rfl
def ActArg (w : World) (v : Value) : Prop := ∃ x : LAct, v = .agg (actA x) ∧ ActOk x
theorem open_act {H : Type} {enc : TypeId × Value → H} {W : World} {held : Bool} {v : Value} {d : DataW H} {p : List MemPlace} {r : Reach} {b0 : Nat}
    (hval : Value.okWide Try.prog W r b0 59 v) (h : DataW.Trod enc Try.prog W 0 (fun _ => true) held 59 v d p) : ActArg W v := by
  obtain ⟨cs, rfl, hn, hp⟩ := open_flat (.inl ⟨_, Try.underlying59⟩) flat_act hval h
  obtain ⟨x0, h0, k0⟩ := hp 0 _ rfl
  obtain ⟨x1, h1, k1⟩ := hp 1 _ rfl
  obtain ⟨x2, h2, k2⟩ := hp 2 _ rfl
  obtain ⟨x3, h3, k3⟩ := hp 3 _ rfl
  obtain ⟨x4, h4, k4⟩ := hp 4 _ rfl
  obtain ⟨w0, rfl, q0⟩ := leaf_u8 k0
  obtain ⟨w1, rfl, q1⟩ := leaf_party k1
  obtain ⟨w2, rfl, q2⟩ := leaf_party k2
  obtain ⟨w3, rfl, q3⟩ := leaf_cur k3
  obtain ⟨w4, rfl, q4⟩ := leaf_i64 k4
  obtain ⟨l⟩ := cs
  refine ⟨⟨w0, w1, w2, w3, w4⟩, ?_, q0, q1, q2, q3, q4⟩
  match l, hn with
  | [c0, c1, c2, c3, c4], _ => simp at h0 h1 h2 h3 h4; subst_vars; rfl
structure ActsArg (w : World) (a : Option Addr) (n c : Nat) (F : List LAct) : Prop where
  len : F.length = n
  cap : n ≤ c
  max : c ≤ maxLen
  rd : Rd w a (actL F)
  ok : ∀ x ∈ F, ActOk x
theorem act_cellsOf : Try.prog.cellsOf 59 = 5 := by kernel_rfl
theorem acts_of {w : World} : ∀ (n : Nat) (xs : List Value), xs.length = n * 5 → (∀ (i j : Nat) (u : TypeId), i < n → ([5, 30, 30, 23, 2] : List TypeId)[j]? = some u → ∃ v, xs[i * 5 + j]? = some v ∧ ∀ d, LeafOk Try.prog w d u v) → ∃ F : List LAct, F.length = n ∧ xs = actL F ∧ ∀ x ∈ F, ActOk x
  | 0, xs, hl, _ => ⟨[], rfl, by simpa [actL] using hl, by simp⟩
  | n + 1, xs, hl, h => by
    rcases xs with _ | ⟨c0, _ | ⟨c1, _ | ⟨c2, _ | ⟨c3, _ | ⟨c4, ys⟩⟩⟩⟩⟩
    · simp at hl
    · simp at hl; omega
    · simp at hl; omega
    · simp at hl; omega
    · simp at hl; omega
    · obtain ⟨x0, h0, k0⟩ := h 0 0 _ (by omega) rfl
      obtain ⟨x1, h1, k1⟩ := h 0 1 _ (by omega) rfl
      obtain ⟨x2, h2, k2⟩ := h 0 2 _ (by omega) rfl
      obtain ⟨x3, h3, k3⟩ := h 0 3 _ (by omega) rfl
      obtain ⟨x4, h4, k4⟩ := h 0 4 _ (by omega) rfl
      simp at h0 h1 h2 h3 h4
      subst h0 h1 h2 h3 h4
      obtain ⟨w0, rfl, q0⟩ := leaf_u8 k0
      obtain ⟨w1, rfl, q1⟩ := leaf_party k1
      obtain ⟨w2, rfl, q2⟩ := leaf_party k2
      obtain ⟨w3, rfl, q3⟩ := leaf_cur k3
      obtain ⟨w4, rfl, q4⟩ := leaf_i64 k4
      obtain ⟨F, hF, rfl, hok⟩ := acts_of n ys (by simp at hl; omega) (fun i j u hi hj => by
        obtain ⟨v, hv, hk⟩ := h (i + 1) j u (by omega) hj
        refine ⟨v, ?_, hk⟩
        rw [show (i + 1) * 5 + j = (i * 5 + j) + 5 by omega] at hv
        simpa using hv)
      exact ⟨⟨w0, w1, w2, w3, w4⟩ :: F, by simp [hF], by simp [actL, actV], fun x hx => by
        rcases List.mem_cons.1 hx with rfl | hx
        · exact ⟨q0, q1, q2, q3, q4⟩
        · exact hok x hx⟩
theorem open_acts {H : Type} {enc : TypeId × Value → H} {W : World} {held : Bool} {v : Value} {d : DataW H} {p : List MemPlace} {r : Reach} {b0 : Nat}
    (hval : Value.okWide Try.prog W r b0 22 v) (h : DataW.Trod enc Try.prog W 0 (fun _ => true) held 22 v d p) : ∃ a n c F, v = .slice a n c ∧ ActsArg W a n c F := by
  have hk := fun d => open_sl Try.underlying22 hval h d
  obtain ⟨a, n, c, xs, rfl, hn, hc, hl, hr, _, hp⟩ := leaf_slice Try.underlying22 flat_act hk
  rw [act_cellsOf] at hl hp
  obtain ⟨F, hF, rfl, hok⟩ := acts_of (w := W) n xs hl hp
  exact ⟨a, n, c, F, rfl, hF, hn, hc, hr, hok⟩
def ActsV (w : World) (v : Value) : Prop := ∃ a n c F, v = .slice a n c ∧ ActsArg w a n c F
theorem open_actsV {H : Type} {enc : TypeId × Value → H} {W : World} {held : Bool} {v : Value} {d : DataW H} {p : List MemPlace} {r : Reach} {b0 : Nat}
    (hval : Value.okWide Try.prog W r b0 22 v) (h : DataW.Trod enc Try.prog W 0 (fun _ => true) held 22 v d p) : ActsV W v := open_acts hval h
end Go.Proofs.Ytgobnamhdkbbeaa

/- countinghouselaw03.Made: a ledger of whatever acts. -/
namespace Go.Proofs.Ytgobnamhdkbbeaa
open Go.RowKit
set_option linter.unusedSimpArgs false
set_option linter.unusedVariables false
theorem cell_u8 : CellTy 5 := ⟨⟨_, Try.underlying5, rfl⟩, by kernel_rfl⟩
/-- What an act makes of a ledger. -/
def actS (S : Lgr) (x : LAct) : Lgr :=
  if x.k % 8 = 0 then openS S x.a else if x.k % 8 = 1 ∨ x.k % 8 = 2 then trustS S x.a x.b x.c x.n else if x.k % 8 = 3 ∨ x.k % 8 = 4 ∨ x.k % 8 = 5 then pushS S x.a x.b x.c x.n else if x.k % 8 = 6 then forgS S x.a x.b x.c x.n else S
def madeS (F : List LAct) : Lgr := F.foldl actS Lgr.new
theorem actS_good {S : Lgr} (G : S.Good) (x : LAct) : (actS S x).Good := by
  unfold actS
  split
  · exact G.open _
  · split
    · exact G.trust _ _ _ _
    · split
      · exact G.push _ _ _ _
      · split
        · exact G.forg _ _ _ _
        · exact G
theorem foldl_good : ∀ (F : List LAct) (S : Lgr), S.Good → (F.foldl actS S).Good
  | [], _, G => G
  | x :: F, S, G => foldl_good F _ (actS_good G x)
theorem madeS_good (F : List LAct) : (madeS F).Good := foldl_good F _ Lgr.new_good
theorem madeS_snoc (F : List LAct) (x : LAct) : madeS (F ++ [x]) = actS (madeS F) x := by simp [madeS, List.foldl_append]
structure MadeR (W : World) (l : List Thing) (p q n : Nat) (F : List LAct) (vi : Value) (wr : World) : Prop where
  out : ∃ k : Nat, k ≤ n ∧ vi = .int .i64 (k : Int) ∧ Heap W (LdC p (madeS (F.take k)).P (some q) :: LdM q (madeS (F.take k)).L :: l) wr
section
variable {W w : World} {l : List Thing}
set_option maxRecDepth 100000
set_option maxHeartbeats 8000000
theorem made_H (ea : Option Addr) (n ec : Nat) (F : List LAct) (hl : F.length = n) (hn : n ≤ 120) (hF : ∀ x ∈ F, ActOk x) (R : ∀ l' w', (∀ x ∈ l, x ∈ l') → Heap W l' w' → Rd w' ea (actL F)) (H : Heap W l w) :
    Calls Try.prog 13 #[.slice ea n ec] w fun e w' => ∃ p q, e = .returned (.pointer (some ⟨p, 0, none⟩)) ∧ Heap W (LdC p (madeS F).P (some q) :: LdM q (madeS F).L :: l) w' := by
  have HL := Lib.hid hl
  have HF := Lib.hid hF
  have HR := Lib.hid R
  clear hl hF R
  go_enter Try.func13, Try.ntmps13
  go_wp2_with (go_skip)
  refine (lnew_H H).mono ?_
  clear H
  rintro e w1 ⟨p, q, rfl, H⟩
  go_wp2_with (go_skip)
  have H0 := H
  clear H
  go_loopw [4] (fun i wr => MadeR W l p q n F i wr) (fun i _ => n - (intOf i).toNat)
  case atStart => exact ⟨0, Nat.zero_le _, rfl, H0⟩
  case round =>
    obtain ⟨k, hk, rfl, H⟩ := hrel.out
    clear H0 hrel
    by_cases hlt : k < n
    · have hkF : k < F.length := by rw [HL.out]; exact hlt
      have hlen : k * 5 + 5 ≤ (actL F).length := by rw [actL_len]; omega
      have hrow := actL_row F k hkF
      have hok := HF.out F[k] (List.getElem_mem hkF)
      have hsn : madeS (F.take (k + 1)) = actS (madeS (F.take k)) F[k] := by rw [take_snoc F k hkF, madeS_snoc]
      have HG := Lib.hid (madeS_good (F.take k))
      have HSN := Lib.hid hsn
      clear hsn
      generalize F[k] = x at *
      generalize madeS (F.take k) = S at *
      obtain ⟨xk, xa, xb, xc, xn⟩ := x
      obtain ⟨o0, o1, o2, o3, o4⟩ := hok
      simp only at o0 o1 o2 o3 o4 hrow
      have HO := Lib.hid o4
      have hbr := HR.out (LdC p S.P (some q) :: LdM q S.L :: l)
      obtain ⟨ba, oa, rfl, _⟩ := (HR.out _ _ (fun t ht => List.mem_cons_of_mem _ (List.mem_cons_of_mem _ ht)) H).lt (by omega)
      have HRd := Lib.hid (show Rd wr (some ⟨ba, oa, none⟩) (actL F) from HR.out _ _ (fun t ht => List.mem_cons_of_mem _ (List.mem_cons_of_mem _ ht)) H)
      clear hbr
      have hr : xk % 8 = 0 ∨ xk % 8 = 1 ∨ xk % 8 = 2 ∨ xk % 8 = 3 ∨ xk % 8 = 4 ∨ xk % 8 = 5 ∨ xk % 8 = 6 ∨ xk % 8 = 7 := by omega
      rcases hr with hr | hr | hr | hr | hr | hr | hr | hr
      · have h8 : Int.tmod (xk : Int) 8 = 0 := by rw [Int.tmod_eq_emod_of_nonneg (by omega)]; omega
        have HE := Lib.hid (show madeS (F.take (k + 1)) = openS S xa by rw [HSN.out]; unfold actS; simp [hr])
        clear hr
        go_wp2_with (first
          | go_skip
          | ((with_reducible show wpList _ _ _ (_ :: _) _ _); (with_reducible apply wpl_loadRdR row_act); (· rfl); (· rfl); (· exact HRd.out); (· rfl); (· exact hlen); (· decide); (· exact hrow); (simp only [Act.put, List.setIfInBounds_toArray, List.set_cons_zero, List.set_cons_succ]))
          | ((with_reducible show wpList _ _ _ (_ :: _) _ _); (with_reducible apply wpl_allocRH row_act); (· rfl); (· exact H); (clear H; intro px _ H); (simp only [Act.put, List.setIfInBounds_toArray, List.set_cons_zero, List.set_cons_succ]))
          | ((with_reducible show wpList _ _ _ (_ :: _) _ _); (with_reducible apply wpl_storeRH row_act); (· rfl); (· rfl); (· rfl); (· with_reducible exact act_cells ..); (· exact H); (· (repeat (first | (with_reducible exact List.mem_cons_self) | with_reducible apply List.mem_cons_of_mem))); (· (simp only [act_sz, Nat.reduceAdd, Nat.reduceLeDiff, Nat.le_refl]; done)); (· with_reducible exact act_splice ..); (· (repeat (first | (with_reducible exact Repl.here) | with_reducible apply Repl.there))); (clear H; intro _ H); (simp only [Act.put, List.setIfInBounds_toArray, List.set_cons_zero, List.set_cons_succ]))
          | ((with_reducible show wpList _ _ _ (_ :: _) _ _); (with_reducible apply wpl_loadCH); (· first | exact cell_u8 | exact cell_party | exact cell_cur | exact cell_i64); (· rfl); (· rfl); (· exact H); (· (repeat (first | (with_reducible exact List.mem_cons_self) | with_reducible apply List.mem_cons_of_mem))); (· with_reducible first | exact act_g0 .. | exact act_g1 .. | exact act_g2 .. | exact act_g3 .. | exact act_g4 ..); (simp only [Act.put, List.setIfInBounds_toArray, List.set_cons_zero, List.set_cons_succ])))
        refine (lopen_H (p := p) (q := q) (S := S) xa o1 (H.pull (.there .here))).mono ?_
        clear H
        rintro e w2 ⟨rfl, H⟩
        go_wp2_with (go_skip)
        refine ⟨⟨k + 1, by omega, by go_num, ?_⟩, ?measure0⟩
        · rw [HE.out, open_L]
          exact H.drop (.there .here)
        case measure0 => simp [intOf]; omega
      · have h8 : Int.tmod (xk : Int) 8 = 1 := by rw [Int.tmod_eq_emod_of_nonneg (by omega)]; omega
        have HE := Lib.hid (show madeS (F.take (k + 1)) = trustS S xa xb xc xn by rw [HSN.out]; unfold actS; simp [hr])
        clear hr
        go_wp2_with (first
          | go_skip
          | ((with_reducible show wpList _ _ _ (_ :: _) _ _); (with_reducible apply wpl_loadRdR row_act); (· rfl); (· rfl); (· exact HRd.out); (· rfl); (· exact hlen); (· decide); (· exact hrow); (simp only [Act.put, List.setIfInBounds_toArray, List.set_cons_zero, List.set_cons_succ]))
          | ((with_reducible show wpList _ _ _ (_ :: _) _ _); (with_reducible apply wpl_allocRH row_act); (· rfl); (· exact H); (clear H; intro px _ H); (simp only [Act.put, List.setIfInBounds_toArray, List.set_cons_zero, List.set_cons_succ]))
          | ((with_reducible show wpList _ _ _ (_ :: _) _ _); (with_reducible apply wpl_storeRH row_act); (· rfl); (· rfl); (· rfl); (· with_reducible exact act_cells ..); (· exact H); (· (repeat (first | (with_reducible exact List.mem_cons_self) | with_reducible apply List.mem_cons_of_mem))); (· (simp only [act_sz, Nat.reduceAdd, Nat.reduceLeDiff, Nat.le_refl]; done)); (· with_reducible exact act_splice ..); (· (repeat (first | (with_reducible exact Repl.here) | with_reducible apply Repl.there))); (clear H; intro _ H); (simp only [Act.put, List.setIfInBounds_toArray, List.set_cons_zero, List.set_cons_succ]))
          | ((with_reducible show wpList _ _ _ (_ :: _) _ _); (with_reducible apply wpl_loadCH); (· first | exact cell_u8 | exact cell_party | exact cell_cur | exact cell_i64); (· rfl); (· rfl); (· exact H); (· (repeat (first | (with_reducible exact List.mem_cons_self) | with_reducible apply List.mem_cons_of_mem))); (· with_reducible first | exact act_g0 .. | exact act_g1 .. | exact act_g2 .. | exact act_g3 .. | exact act_g4 ..); (simp only [Act.put, List.setIfInBounds_toArray, List.set_cons_zero, List.set_cons_succ])))
        refine (ltrust_H (p := p) (q := q) (S := S) xa xb xc xn o1 o2 o3 HG.out (H.top2 (.there .here) (.there .here))).mono ?_
        clear H
        rintro e w2 ⟨rfl, H⟩
        go_wp2_with (go_skip)
        refine ⟨⟨k + 1, by omega, by go_num, ?_⟩, ?measure1⟩
        · rw [HE.out, trust_P]
          exact H.drop (.there (.there .here))
        case measure1 => simp [intOf]; omega
      · have h8 : Int.tmod (xk : Int) 8 = 2 := by rw [Int.tmod_eq_emod_of_nonneg (by omega)]; omega
        have HE := Lib.hid (show madeS (F.take (k + 1)) = trustS S xa xb xc xn by rw [HSN.out]; unfold actS; simp [hr])
        clear hr
        go_wp2_with (first
          | go_skip
          | ((with_reducible show wpList _ _ _ (_ :: _) _ _); (with_reducible apply wpl_loadRdR row_act); (· rfl); (· rfl); (· exact HRd.out); (· rfl); (· exact hlen); (· decide); (· exact hrow); (simp only [Act.put, List.setIfInBounds_toArray, List.set_cons_zero, List.set_cons_succ]))
          | ((with_reducible show wpList _ _ _ (_ :: _) _ _); (with_reducible apply wpl_allocRH row_act); (· rfl); (· exact H); (clear H; intro px _ H); (simp only [Act.put, List.setIfInBounds_toArray, List.set_cons_zero, List.set_cons_succ]))
          | ((with_reducible show wpList _ _ _ (_ :: _) _ _); (with_reducible apply wpl_storeRH row_act); (· rfl); (· rfl); (· rfl); (· with_reducible exact act_cells ..); (· exact H); (· (repeat (first | (with_reducible exact List.mem_cons_self) | with_reducible apply List.mem_cons_of_mem))); (· (simp only [act_sz, Nat.reduceAdd, Nat.reduceLeDiff, Nat.le_refl]; done)); (· with_reducible exact act_splice ..); (· (repeat (first | (with_reducible exact Repl.here) | with_reducible apply Repl.there))); (clear H; intro _ H); (simp only [Act.put, List.setIfInBounds_toArray, List.set_cons_zero, List.set_cons_succ]))
          | ((with_reducible show wpList _ _ _ (_ :: _) _ _); (with_reducible apply wpl_loadCH); (· first | exact cell_u8 | exact cell_party | exact cell_cur | exact cell_i64); (· rfl); (· rfl); (· exact H); (· (repeat (first | (with_reducible exact List.mem_cons_self) | with_reducible apply List.mem_cons_of_mem))); (· with_reducible first | exact act_g0 .. | exact act_g1 .. | exact act_g2 .. | exact act_g3 .. | exact act_g4 ..); (simp only [Act.put, List.setIfInBounds_toArray, List.set_cons_zero, List.set_cons_succ])))
        refine (ltrust_H (p := p) (q := q) (S := S) xa xb xc xn o1 o2 o3 HG.out (H.top2 (.there .here) (.there .here))).mono ?_
        clear H
        rintro e w2 ⟨rfl, H⟩
        go_wp2_with (go_skip)
        refine ⟨⟨k + 1, by omega, by go_num, ?_⟩, ?measure2⟩
        · rw [HE.out, trust_P]
          exact H.drop (.there (.there .here))
        case measure2 => simp [intOf]; omega
      · have h8 : Int.tmod (xk : Int) 8 = 3 := by rw [Int.tmod_eq_emod_of_nonneg (by omega)]; omega
        have HE := Lib.hid (show madeS (F.take (k + 1)) = pushS S xa xb xc xn by rw [HSN.out]; unfold actS; simp [hr])
        clear hr
        go_wp2_with (first
          | go_skip
          | ((with_reducible show wpList _ _ _ (_ :: _) _ _); (with_reducible apply wpl_loadRdR row_act); (· rfl); (· rfl); (· exact HRd.out); (· rfl); (· exact hlen); (· decide); (· exact hrow); (simp only [Act.put, List.setIfInBounds_toArray, List.set_cons_zero, List.set_cons_succ]))
          | ((with_reducible show wpList _ _ _ (_ :: _) _ _); (with_reducible apply wpl_allocRH row_act); (· rfl); (· exact H); (clear H; intro px _ H); (simp only [Act.put, List.setIfInBounds_toArray, List.set_cons_zero, List.set_cons_succ]))
          | ((with_reducible show wpList _ _ _ (_ :: _) _ _); (with_reducible apply wpl_storeRH row_act); (· rfl); (· rfl); (· rfl); (· with_reducible exact act_cells ..); (· exact H); (· (repeat (first | (with_reducible exact List.mem_cons_self) | with_reducible apply List.mem_cons_of_mem))); (· (simp only [act_sz, Nat.reduceAdd, Nat.reduceLeDiff, Nat.le_refl]; done)); (· with_reducible exact act_splice ..); (· (repeat (first | (with_reducible exact Repl.here) | with_reducible apply Repl.there))); (clear H; intro _ H); (simp only [Act.put, List.setIfInBounds_toArray, List.set_cons_zero, List.set_cons_succ]))
          | ((with_reducible show wpList _ _ _ (_ :: _) _ _); (with_reducible apply wpl_loadCH); (· first | exact cell_u8 | exact cell_party | exact cell_cur | exact cell_i64); (· rfl); (· rfl); (· exact H); (· (repeat (first | (with_reducible exact List.mem_cons_self) | with_reducible apply List.mem_cons_of_mem))); (· with_reducible first | exact act_g0 .. | exact act_g1 .. | exact act_g2 .. | exact act_g3 .. | exact act_g4 ..); (simp only [Act.put, List.setIfInBounds_toArray, List.set_cons_zero, List.set_cons_succ])))
        refine (lpush_H (p := p) (q := q) (S := S) xa xb xc xn o1 o2 o3 HO.out HG.out (H.top2 (.there .here) (.there .here))).mono ?_
        clear H
        rintro e w2 ⟨rfl, H⟩
        go_wp2_with (go_skip)
        refine ⟨⟨k + 1, by omega, by go_num, ?_⟩, ?measure3⟩
        · rw [HE.out, push_P]
          exact H.drop (.there (.there .here))
        case measure3 => simp [intOf]; omega
      · have h8 : Int.tmod (xk : Int) 8 = 4 := by rw [Int.tmod_eq_emod_of_nonneg (by omega)]; omega
        have HE := Lib.hid (show madeS (F.take (k + 1)) = pushS S xa xb xc xn by rw [HSN.out]; unfold actS; simp [hr])
        clear hr
        go_wp2_with (first
          | go_skip
          | ((with_reducible show wpList _ _ _ (_ :: _) _ _); (with_reducible apply wpl_loadRdR row_act); (· rfl); (· rfl); (· exact HRd.out); (· rfl); (· exact hlen); (· decide); (· exact hrow); (simp only [Act.put, List.setIfInBounds_toArray, List.set_cons_zero, List.set_cons_succ]))
          | ((with_reducible show wpList _ _ _ (_ :: _) _ _); (with_reducible apply wpl_allocRH row_act); (· rfl); (· exact H); (clear H; intro px _ H); (simp only [Act.put, List.setIfInBounds_toArray, List.set_cons_zero, List.set_cons_succ]))
          | ((with_reducible show wpList _ _ _ (_ :: _) _ _); (with_reducible apply wpl_storeRH row_act); (· rfl); (· rfl); (· rfl); (· with_reducible exact act_cells ..); (· exact H); (· (repeat (first | (with_reducible exact List.mem_cons_self) | with_reducible apply List.mem_cons_of_mem))); (· (simp only [act_sz, Nat.reduceAdd, Nat.reduceLeDiff, Nat.le_refl]; done)); (· with_reducible exact act_splice ..); (· (repeat (first | (with_reducible exact Repl.here) | with_reducible apply Repl.there))); (clear H; intro _ H); (simp only [Act.put, List.setIfInBounds_toArray, List.set_cons_zero, List.set_cons_succ]))
          | ((with_reducible show wpList _ _ _ (_ :: _) _ _); (with_reducible apply wpl_loadCH); (· first | exact cell_u8 | exact cell_party | exact cell_cur | exact cell_i64); (· rfl); (· rfl); (· exact H); (· (repeat (first | (with_reducible exact List.mem_cons_self) | with_reducible apply List.mem_cons_of_mem))); (· with_reducible first | exact act_g0 .. | exact act_g1 .. | exact act_g2 .. | exact act_g3 .. | exact act_g4 ..); (simp only [Act.put, List.setIfInBounds_toArray, List.set_cons_zero, List.set_cons_succ])))
        refine (lpush_H (p := p) (q := q) (S := S) xa xb xc xn o1 o2 o3 HO.out HG.out (H.top2 (.there .here) (.there .here))).mono ?_
        clear H
        rintro e w2 ⟨rfl, H⟩
        go_wp2_with (go_skip)
        refine ⟨⟨k + 1, by omega, by go_num, ?_⟩, ?measure4⟩
        · rw [HE.out, push_P]
          exact H.drop (.there (.there .here))
        case measure4 => simp [intOf]; omega
      · have h8 : Int.tmod (xk : Int) 8 = 5 := by rw [Int.tmod_eq_emod_of_nonneg (by omega)]; omega
        have HE := Lib.hid (show madeS (F.take (k + 1)) = pushS S xa xb xc xn by rw [HSN.out]; unfold actS; simp [hr])
        clear hr
        go_wp2_with (first
          | go_skip
          | ((with_reducible show wpList _ _ _ (_ :: _) _ _); (with_reducible apply wpl_loadRdR row_act); (· rfl); (· rfl); (· exact HRd.out); (· rfl); (· exact hlen); (· decide); (· exact hrow); (simp only [Act.put, List.setIfInBounds_toArray, List.set_cons_zero, List.set_cons_succ]))
          | ((with_reducible show wpList _ _ _ (_ :: _) _ _); (with_reducible apply wpl_allocRH row_act); (· rfl); (· exact H); (clear H; intro px _ H); (simp only [Act.put, List.setIfInBounds_toArray, List.set_cons_zero, List.set_cons_succ]))
          | ((with_reducible show wpList _ _ _ (_ :: _) _ _); (with_reducible apply wpl_storeRH row_act); (· rfl); (· rfl); (· rfl); (· with_reducible exact act_cells ..); (· exact H); (· (repeat (first | (with_reducible exact List.mem_cons_self) | with_reducible apply List.mem_cons_of_mem))); (· (simp only [act_sz, Nat.reduceAdd, Nat.reduceLeDiff, Nat.le_refl]; done)); (· with_reducible exact act_splice ..); (· (repeat (first | (with_reducible exact Repl.here) | with_reducible apply Repl.there))); (clear H; intro _ H); (simp only [Act.put, List.setIfInBounds_toArray, List.set_cons_zero, List.set_cons_succ]))
          | ((with_reducible show wpList _ _ _ (_ :: _) _ _); (with_reducible apply wpl_loadCH); (· first | exact cell_u8 | exact cell_party | exact cell_cur | exact cell_i64); (· rfl); (· rfl); (· exact H); (· (repeat (first | (with_reducible exact List.mem_cons_self) | with_reducible apply List.mem_cons_of_mem))); (· with_reducible first | exact act_g0 .. | exact act_g1 .. | exact act_g2 .. | exact act_g3 .. | exact act_g4 ..); (simp only [Act.put, List.setIfInBounds_toArray, List.set_cons_zero, List.set_cons_succ])))
        refine (lpush_H (p := p) (q := q) (S := S) xa xb xc xn o1 o2 o3 HO.out HG.out (H.top2 (.there .here) (.there .here))).mono ?_
        clear H
        rintro e w2 ⟨rfl, H⟩
        go_wp2_with (go_skip)
        refine ⟨⟨k + 1, by omega, by go_num, ?_⟩, ?measure5⟩
        · rw [HE.out, push_P]
          exact H.drop (.there (.there .here))
        case measure5 => simp [intOf]; omega
      · have h8 : Int.tmod (xk : Int) 8 = 6 := by rw [Int.tmod_eq_emod_of_nonneg (by omega)]; omega
        have HE := Lib.hid (show madeS (F.take (k + 1)) = forgS S xa xb xc xn by rw [HSN.out]; unfold actS; simp [hr])
        clear hr
        go_wp2_with (first
          | go_skip
          | ((with_reducible show wpList _ _ _ (_ :: _) _ _); (with_reducible apply wpl_loadRdR row_act); (· rfl); (· rfl); (· exact HRd.out); (· rfl); (· exact hlen); (· decide); (· exact hrow); (simp only [Act.put, List.setIfInBounds_toArray, List.set_cons_zero, List.set_cons_succ]))
          | ((with_reducible show wpList _ _ _ (_ :: _) _ _); (with_reducible apply wpl_allocRH row_act); (· rfl); (· exact H); (clear H; intro px _ H); (simp only [Act.put, List.setIfInBounds_toArray, List.set_cons_zero, List.set_cons_succ]))
          | ((with_reducible show wpList _ _ _ (_ :: _) _ _); (with_reducible apply wpl_storeRH row_act); (· rfl); (· rfl); (· rfl); (· with_reducible exact act_cells ..); (· exact H); (· (repeat (first | (with_reducible exact List.mem_cons_self) | with_reducible apply List.mem_cons_of_mem))); (· (simp only [act_sz, Nat.reduceAdd, Nat.reduceLeDiff, Nat.le_refl]; done)); (· with_reducible exact act_splice ..); (· (repeat (first | (with_reducible exact Repl.here) | with_reducible apply Repl.there))); (clear H; intro _ H); (simp only [Act.put, List.setIfInBounds_toArray, List.set_cons_zero, List.set_cons_succ]))
          | ((with_reducible show wpList _ _ _ (_ :: _) _ _); (with_reducible apply wpl_loadCH); (· first | exact cell_u8 | exact cell_party | exact cell_cur | exact cell_i64); (· rfl); (· rfl); (· exact H); (· (repeat (first | (with_reducible exact List.mem_cons_self) | with_reducible apply List.mem_cons_of_mem))); (· with_reducible first | exact act_g0 .. | exact act_g1 .. | exact act_g2 .. | exact act_g3 .. | exact act_g4 ..); (simp only [Act.put, List.setIfInBounds_toArray, List.set_cons_zero, List.set_cons_succ])))
        refine (lforg_H (p := p) (q := q) (S := S) xa xb xc xn o1 o2 o3 HO.out HG.out (H.top2 (.there .here) (.there .here))).mono ?_
        clear H
        rintro e w2 ⟨rfl, H⟩
        go_wp2_with (go_skip)
        refine ⟨⟨k + 1, by omega, by go_num, ?_⟩, ?measure6⟩
        · rw [HE.out, forg_P]
          exact H.drop (.there (.there .here))
        case measure6 => simp [intOf]; omega
      · have h8 : Int.tmod (xk : Int) 8 = 7 := by rw [Int.tmod_eq_emod_of_nonneg (by omega)]; omega
        have HE := Lib.hid (show madeS (F.take (k + 1)) = S by rw [HSN.out]; unfold actS; simp [hr])
        clear hr
        go_wp2_with (first
          | go_skip
          | ((with_reducible show wpList _ _ _ (_ :: _) _ _); (with_reducible apply wpl_loadRdR row_act); (· rfl); (· rfl); (· exact HRd.out); (· rfl); (· exact hlen); (· decide); (· exact hrow); (simp only [Act.put, List.setIfInBounds_toArray, List.set_cons_zero, List.set_cons_succ]))
          | ((with_reducible show wpList _ _ _ (_ :: _) _ _); (with_reducible apply wpl_allocRH row_act); (· rfl); (· exact H); (clear H; intro px _ H); (simp only [Act.put, List.setIfInBounds_toArray, List.set_cons_zero, List.set_cons_succ]))
          | ((with_reducible show wpList _ _ _ (_ :: _) _ _); (with_reducible apply wpl_storeRH row_act); (· rfl); (· rfl); (· rfl); (· with_reducible exact act_cells ..); (· exact H); (· (repeat (first | (with_reducible exact List.mem_cons_self) | with_reducible apply List.mem_cons_of_mem))); (· (simp only [act_sz, Nat.reduceAdd, Nat.reduceLeDiff, Nat.le_refl]; done)); (· with_reducible exact act_splice ..); (· (repeat (first | (with_reducible exact Repl.here) | with_reducible apply Repl.there))); (clear H; intro _ H); (simp only [Act.put, List.setIfInBounds_toArray, List.set_cons_zero, List.set_cons_succ]))
          | ((with_reducible show wpList _ _ _ (_ :: _) _ _); (with_reducible apply wpl_loadCH); (· first | exact cell_u8 | exact cell_party | exact cell_cur | exact cell_i64); (· rfl); (· rfl); (· exact H); (· (repeat (first | (with_reducible exact List.mem_cons_self) | with_reducible apply List.mem_cons_of_mem))); (· with_reducible first | exact act_g0 .. | exact act_g1 .. | exact act_g2 .. | exact act_g3 .. | exact act_g4 ..); (simp only [Act.put, List.setIfInBounds_toArray, List.set_cons_zero, List.set_cons_succ])))
        refine ⟨⟨k + 1, by omega, by go_num, ?_⟩, ?measure7⟩
        · rw [HE.out]
          exact H.tail
        case measure7 => simp [intOf]; omega
    · obtain rfl : k = n := by omega
      rw [List.take_of_length_le (by rw [HL.out]; exact Nat.le_refl _)] at H
      go_wp2_with (go_skip)
      go_ret
      exact ⟨p, q, rfl, H⟩
end
end Go.Proofs.Ytgobnamhdkbbeaa

/- graphs.Of: a ledger's rooms. -/
namespace Go.Proofs.Ytgobnamhdkbbeaa
open Go.RowKit
set_option linter.unusedSimpArgs false
set_option linter.unusedVariables false
/-- The rooms of a ledger, as capacities. -/
def capsS (S : Lgr) (c : Int) : Caps := fun a b => roomOf S a b c
theorem gr_congr {c d : Caps} {m : Bool} (h : ∀ a b, a < 17 → b < 17 → c a b = d a b) : gr c m = gr d m := by
  unfold gr
  apply tab_congr
  intro i hi
  split
  · rw [h _ _ (by omega) (by omega)]
  · rfl
/-- Half set: each is 0 or the room. -/
def HalfC (S : Lgr) (c : Int) (C : Caps) : Prop := ∀ a b : Nat, C a b = 0 ∨ C a b = roomOf S a b c
structure OfR (W : World) (l : List Thing) (S : Lgr) (c : Int) (p n : Nat) (i : Value) (wr : World) : Prop where
  out : ∃ (k : Nat) (C : Caps), k ≤ n ∧ i = .int .i64 (k : Int) ∧ HalfC S c C ∧ (∀ a b : Nat, (a : Int) ∈ S.P.take k → (b : Int) ∈ S.P → C a b = roomOf S a b c) ∧ Heap W (Gr p C :: l) wr
structure OfR2 (W : World) (l : List Thing) (S : Lgr) (c : Int) (p n k a0 : Nat) (i : Value) (wr : World) : Prop where
  out : ∃ (j : Nat) (C : Caps), j ≤ n ∧ i = .int .i64 (j : Int) ∧ HalfC S c C ∧ (∀ a b : Nat, (a : Int) ∈ S.P.take k → (b : Int) ∈ S.P → C a b = roomOf S a b c) ∧ (∀ b : Nat, (b : Int) ∈ S.P.take j → C a0 b = roomOf S a0 b c) ∧ Heap W (Gr p C :: l) wr
theorem half_done {S : Lgr} {c : Int} {C : Caps} (G : S.Good) (h : HalfC S c C) (h2 : ∀ a b : Nat, (a : Int) ∈ S.P → (b : Int) ∈ S.P → C a b = roomOf S a b c) (a b : Nat) : C a b = capsS S c a b := by
  unfold capsS
  by_cases ha : (a : Int) ∈ S.P
  · by_cases hb : (b : Int) ∈ S.P
    · exact h2 a b ha hb
    · have := G.room0 (f := a) (t := b) c (.inr (.inr hb))
      rcases h a b with h | h <;> omega
  · have := G.room0 (f := a) (t := b) c (.inr (.inl ha))
    rcases h a b with h | h <;> omega
theorem half_upd {S : Lgr} {c : Int} {C : Caps} (h : HalfC S c C) (a b : Nat) : HalfC S c (upd2 C a b (roomOf S a b c)) := fun x y => by
  unfold upd2
  split
  · rename_i e; obtain ⟨rfl, rfl⟩ := e; exact .inr rfl
  · exact h x y
theorem upd_room {S : Lgr} {c : Int} {C : Caps} {x y : Nat} (a b : Nat) (h : C x y = roomOf S x y c) : upd2 C a b (roomOf S a b c) x y = roomOf S x y c := by
  unfold upd2
  split
  · rename_i e; obtain ⟨rfl, rfl⟩ := e; rfl
  · exact h
section
variable {W w : World} {l : List Thing} {p q : Nat} {S : Lgr}
set_option maxRecDepth 100000
set_option maxHeartbeats 4000000
theorem of_H (c : Nat) (hc : c ≤ 255) (G : S.Good) (H : Heap W l w) (h1 : LdC p S.P (some q) ∈ l) (h2 : LdM q S.L ∈ l) :
    Calls Try.prog 14 #[.pointer (some ⟨p, 0, none⟩), .int .u8 (c : Int)] w fun e w' => ∃ g, e = .returned (.pointer (some ⟨g, 0, none⟩)) ∧ Heap W (Gr g (capsS S c) :: l) w' := by
  have HG := Lib.hid G
  have hfew := G.few16
  clear G
  go_enter Try.func14, Try.ntmps14
  go_wp2_with (first
    | go_skip
    | ((with_reducible show wpList _ _ _ (_ :: _) _ _); (with_reducible apply wpl_boxRH); (· rfl); (· rfl); (· exact H); (clear H; intro pg _ H); (simp only [Act.put, List.setIfInBounds_toArray, List.set_cons_zero, List.set_cons_succ])))
  rw [zero_gr] at H
  refine (lparties_H (p := p) (q := q) HG.out.par HG.out.par1 H (List.mem_cons_of_mem _ h1)).mono ?_
  clear H
  rintro e w1 (⟨h0, rfl, H⟩ | ⟨hpos, g, cc, rfl, hcc, H⟩)
  · go_wp2_with (go_skip)
    refine wp_loop_once ?_
    go_wp2_with (go_skip)
    go_ret
    refine ⟨pg, rfl, ?_⟩
    have hP : S.P = [] := List.eq_nil_of_length_eq_zero h0
    have e : gr zeroC true = gr (capsS S c) true := gr_congr fun a b _ _ => by
      have := HG.out.room0 (f := a) (t := b) c (.inr (.inl (by rw [hP]; exact List.not_mem_nil)))
      show 0 = roomOf S a b c
      omega
    unfold Gr at *
    rw [e] at H
    exact H
  · generalize hn : S.P.length = n at *
    have HN := Lib.hid hn
    clear hn
    replace H := H.perm (.swap _ _ _)
    have H0 := H
    clear H
    have HM1 := Lib.hid h1
    have HM2 := Lib.hid h2
    clear h1 h2 hpos hcc
    go_wp2_with (go_skip)
    go_loopw [17] (fun i wr => OfR W (Sl g 30 1 n cc (pI S.P) :: l) S c pg n i wr) (fun i _ => n - (intOf i).toNat)
    case atStart => exact ⟨0, zeroC, Nat.zero_le _, rfl, fun _ _ => .inl rfl, (fun a b h => by simp at h), H0⟩
    case round =>
      obtain ⟨k, C, hk, rfl, hC, hT, H⟩ := hrel.out
      clear H0 hrel
      have HC := Lib.hid (And.intro hC hT)
      clear hC hT
      by_cases hlt : k < n
      · have hkP : k < S.P.length := by rw [HN.out]; exact hlt
        have hb := HG.out.par1 _ (List.getElem_mem hkP)
        obtain ⟨a, ha⟩ : ∃ a : Nat, S.P[k] = (a : Int) := ⟨S.P[k].toNat, by rw [Int.toNat_of_nonneg (by omega)]⟩
        rw [ha] at hb
        have a17 : a < 17 := by omega
        have a255 : a ≤ 255 := by omega
        have HA := Lib.hid ha
        have HRD := Lib.hid (show ∀ (C : Caps) w', Heap W (Gr pg C :: Sl g 30 1 n cc (pI S.P) :: l) w' → Rd w' (some ⟨g, 0, none⟩) (pI S.P) from fun C w' H' => H'.slRd (List.mem_cons_of_mem _ List.mem_cons_self))
        have hcell : wr.cell? ⟨g, k, none⟩ = some (.int .u8 (a : Int)) := by
          have h3 := (HRD.out C wr H).get (i := k) (by rw [pI_len, HN.out]; exact hlt)
          rw [Nat.zero_add] at h3
          rw [h3]
          simp [pI, HA.out]
        have HKP := Lib.hid hkP
        clear ha hb
        go_wp2_with (first | go_skip | ((with_reducible show wpList _ _ _ (_ :: _) _ _); (with_reducible apply wpl_loadCell); (· exact cell_party); (· rfl); (· rfl); (· exact hcell); (simp only [Act.put, List.setIfInBounds_toArray, List.set_cons_zero, List.set_cons_succ])))
        clear hcell
        have H0 := H
        clear H
        go_loopw [23] (fun i wr => OfR2 W (Sl g 30 1 n cc (pI S.P) :: l) S c pg n k a i wr) (fun i _ => n - (intOf i).toNat)
        case atStart => exact ⟨0, C, Nat.zero_le _, rfl, HC.out.1, HC.out.2, (fun b h => by simp at h), H0⟩
        case round =>
          obtain ⟨j, D, hj, rfl, hD, hDT, hDJ, H⟩ := hrel.out
          clear H0 hrel
          have HD := Lib.hid (And.intro hD (And.intro hDT hDJ))
          clear hD hDT hDJ
          by_cases hjt : j < n
          · have hjP : j < S.P.length := by rw [HN.out]; exact hjt
            have hb := HG.out.par1 _ (List.getElem_mem hjP)
            obtain ⟨b, hbb⟩ : ∃ b : Nat, S.P[j] = (b : Int) := ⟨S.P[j].toNat, by rw [Int.toNat_of_nonneg (by omega)]⟩
            rw [hbb] at hb
            have b17 : b < 17 := by omega
            have b255 : b ≤ 255 := by omega
            have hcell : wr.cell? ⟨g, j, none⟩ = some (.int .u8 (b : Int)) := by
              have h3 := (HRD.out D wr H).get (i := j) (by rw [pI_len, HN.out]; exact hjt)
              rw [Nat.zero_add] at h3
              rw [h3]
              simp [pI, hbb]
            have R := lroom_H (W := W) (l := Gr pg D :: Sl g 30 1 n cc (pI S.P) :: l) (p := p) (q := q) a b c a255 b255 hc HG.out (List.mem_cons_of_mem _ (List.mem_cons_of_mem _ HM1.out)) (List.mem_cons_of_mem _ (List.mem_cons_of_mem _ HM2.out))
            have HB := Lib.hid (show S.P.take (j + 1) = S.P.take j ++ [(b : Int)] by rw [take_snoc _ _ hjP, hbb])
            generalize hro : roomOf S a b c = ro at *
            have HRO := Lib.hid hro
            clear hb hbb hjP hro
            go_wp2_with (first | go_skip | ((with_reducible show wpList _ _ _ (_ :: _) _ _); (with_reducible apply wpl_loadCell); (· exact cell_party); (· rfl); (· rfl); (· exact hcell); (simp only [Act.put, List.setIfInBounds_toArray, List.set_cons_zero, List.set_cons_succ])))
            refine wp_region_H_tail 12 H (by kernel_rfl) (by kernel_rfl) ?_
            simp only [List.take_succ_cons, List.take_zero, List.drop_succ_cons, List.drop_zero]
            repeat (first | go_big_quiet_skip | fail | go_big_quiet_step ((with_reducible first | exact AnsH.quiet (by assumption) | exact Ans.quietH (by assumption))))
            refine wpQuiet_nil ?_
            clear H
            intro _ H
            go_wp2_with ((with_reducible show wpList _ _ _ (_ :: _) _ _); (with_reducible apply wpl_storeIH); (· exact cell_i64); (· rfl); (· rfl); (· rfl); (· exact H); (· (repeat (first | (with_reducible exact List.mem_cons_self) | with_reducible apply List.mem_cons_of_mem))); (· (rw [gr_sz]; omega)); (· exact gr_set _ _ a17 b17 _); (· (repeat (first | (with_reducible exact Repl.here) | with_reducible apply Repl.there))); (clear H; intro _ H); (simp only [Act.put, List.setIfInBounds_toArray, List.set_cons_zero, List.set_cons_succ]))
            refine ⟨⟨j + 1, _, by omega, by go_num, ?_, ?_, ?_, H⟩, ?measure⟩
            case measure => simp [intOf]; omega
            · rw [← HRO.out]
              exact half_upd HD.out.1 a b
            · intro x y hx hy
              rw [← HRO.out]
              exact upd_room a b (HD.out.2.1 x y hx hy)
            · intro y hy
              rw [← HRO.out]
              rw [HB.out, List.mem_append] at hy
              rcases hy with hy | hy
              · exact upd_room a b (HD.out.2.2 y hy)
              · have : y = b := by simp at hy; omega
                subst this
                unfold upd2
                rw [if_pos ⟨rfl, rfl⟩]
          · obtain rfl : j = n := by omega
            go_wp2_with (go_skip)
            refine ⟨⟨k + 1, D, by omega, by go_num, HD.out.1, ?_, H⟩, ?measure2⟩
            case measure2 => simp [intOf]; omega
            intro x y hx hy
            rw [take_snoc _ _ HKP.out, HA.out, List.mem_append] at hx
            rcases hx with hx | hx
            · exact HD.out.2.1 x y hx hy
            · have : x = a := by simp at hx; omega
              subst this
              exact HD.out.2.2 y (by rw [List.take_of_length_le (by rw [HN.out]; exact Nat.le_refl _)]; exact hy)
      · obtain rfl : k = n := by omega
        go_wp2_with (go_skip)
        go_ret
        refine ⟨pg, rfl, ?_⟩
        have e : gr C true = gr (capsS S c) true := gr_congr fun a b _ _ => half_done HG.out HC.out.1 (fun a b ha hb => HC.out.2 a b (by rw [List.take_of_length_le (by rw [HN.out]; exact Nat.le_refl _)]; exact ha) hb) a b
        have H2 := H.drop (.there .here)
        unfold Gr at *
        rw [e] at H2
        exact H2
end
end Go.Proofs.Ytgobnamhdkbbeaa

/- The walk of GraphsPair. -/
namespace Go.Proofs.Ytgobnamhdkbbeaa
open Go.RowKit
set_option linter.unusedSimpArgs false
set_option linter.unusedVariables false
/-- What a push changes between x and y. -/
def pairD (a b : Nat) (n : Int) (x y : Nat) : Int := if x = a ∧ y = b then -n else if x = b ∧ y = a then n else 0
theorem pair_get {c : Caps} {a b : Nat} {n : Int} (hne : a ≠ b) (x y : Nat) : pushC c a b n x y = c x y + pairD a b n x y := by
  unfold pushC pairD upd2
  by_cases h1 : x = a ∧ y = b
  · obtain ⟨rfl, rfl⟩ := h1
    simp [hne]
    omega
  · by_cases h2 : x = b ∧ y = a
    · obtain ⟨rfl, rfl⟩ := h2
      simp [hne, Ne.symm hne]
    · simp [h1, h2]
theorem mayP_iff (a : Nat) : mayP a = true ↔ 1 ≤ a ∧ a ≤ 16 := by simp [mayP]
section
variable {S : Lgr}
theorem capsS_in (G : S.Good) {c : Int} {a b : Nat} (h : capsS S c a b ≠ 0) : a ≠ b ∧ 1 ≤ a ∧ a ≤ 16 ∧ 1 ≤ b ∧ b ≤ 16 := by
  have h1 := fun e => h (G.room0 (f := a) (t := b) c (.inl e))
  have h2 : (a : Int) ∈ S.P := Decidable.byContradiction fun e => h (G.room0 (f := a) (t := b) c (.inr (.inl e)))
  have h3 : (b : Int) ∈ S.P := Decidable.byContradiction fun e => h (G.room0 (f := a) (t := b) c (.inr (.inr e)))
  have b1 := G.par1 _ h2
  have b2 := G.par1 _ h3
  exact ⟨fun e => h1 (by rw [e]), by omega, by omega, by omega, by omega⟩
theorem capsS_cap (G : S.Good) (c : Int) (a b : Nat) : capOf (capsS S c) a b = capsS S c a b := by
  unfold capOf
  split
  · rfl
  · rename_i h
    refine (Decidable.byContradiction fun e => ?_ : capsS S c a b = 0).symm
    have := capsS_in G e
    exact h ⟨(mayP_iff a).2 (by omega), (mayP_iff b).2 (by omega)⟩
theorem push_cap (G : S.Good) (c : Int) {a b : Nat} {n : Int} (hn : 1 ≤ n) (hc : n ≤ capsS S c a b) (x y : Nat) : capOf (pushC (capsS S c) a b n) x y = capsS S c x y + pairD a b n x y := by
  have hab := capsS_in G (show capsS S c a b ≠ 0 by omega)
  unfold capOf
  split
  · exact pair_get hab.1 x y
  · rename_i h
    have e0 : capsS S c x y = 0 := Decidable.byContradiction fun e => by
      have := capsS_in G e
      exact h ⟨(mayP_iff x).2 (by omega), (mayP_iff y).2 (by omega)⟩
    have e1 : pairD a b n x y = 0 := by
      unfold pairD
      rw [if_neg, if_neg]
      · rintro ⟨rfl, rfl⟩; exact h ⟨(mayP_iff _).2 (by omega), (mayP_iff _).2 (by omega)⟩
      · rintro ⟨rfl, rfl⟩; exact h ⟨(mayP_iff _).2 (by omega), (mayP_iff _).2 (by omega)⟩
    rw [e0, e1]; rfl
/-- None is pushed below nothing. -/
theorem pair_pos (G : S.Good) (c : Int) {a b : Nat} {n : Int} (hn : 1 ≤ n) (hc : n ≤ capsS S c a b) (x y : Nat) : 0 ≤ capsS S c x y + pairD a b n x y ∧ capsS S c x y + pairD a b n x y ≤ 4398046511104 ∧ 0 ≤ capsS S c x y ∧ capsS S c x y ≤ 2199023255552 := by
  have h1 := G.room x y c
  have h2 := G.room a b c
  unfold capsS at *
  refine ⟨?_, ?_, h1.1, h1.2⟩
  · unfold pairD
    split
    · rename_i h; obtain ⟨rfl, rfl⟩ := h; omega
    · split <;> omega
  · unfold pairD
    split
    · omega
    · split <;> omega
end
/-- A loop over the parties: nothing changes. -/
structure PairL (W : World) (l : List Thing) (i : Value) (wr : World) : Prop where
  out : ∃ k : Nat, k ≤ 18 ∧ i = .int .u8 (k : Int) ∧ Heap W l wr
set_option maxRecDepth 100000
set_option maxHeartbeats 8000000
theorem graphsPair_great (w : World) (ea : Option Addr) (an ac cu : Nat) (a b : Nat) (n : Int) (hn : 120 < an) (hm : an ≤ maxLen) :
    Calls Try.prog 4 #[.slice ea an ac, .int .u8 (cu : Int), .agg (flow a b n)] w fun e w' => e = .returned (.bool true) ∧ Below w.heap.size w w' := by
  have H := Heap.start w
  have hcnt : 120 < (an : Int) := by omega
  unfold maxLen at hm
  go_enter Try.func4, Try.ntmps4
  go_wp2_with (first | go_skip | ((with_reducible show wpList _ _ _ (_ :: _) _ _); (with_reducible apply wpl_boxRH); (· rfl); (· rfl); (· exact H); (clear H; intro px _ H); (simp only [Act.put, List.setIfInBounds_toArray, List.set_cons_zero, List.set_cons_succ])))
  refine (lives05_H H).mono ?_
  clear H
  rintro e w7 ⟨rfl, H⟩
  go_wp2_with (go_skip)
  go_ret
  exact ⟨rfl, H.low⟩

theorem graphsPair_arg (w : World) (ea : Option Addr) (an ac cu : Nat) (F : List LAct) (a b : Nat) (n : Int) (hl : F.length = an) (hn : an ≤ 120) (hF : ∀ x ∈ F, ActOk x) (R : Rd w ea (actL F)) (hc : cu ≤ 255) (ha : a ≤ 255) (hb : b ≤ 255) (hr : -9223372036854775808 ≤ n ∧ n ≤ 9223372036854775807) (hp : n < 1) :
    Calls Try.prog 4 #[.slice ea an ac, .int .u8 (cu : Int), .agg (flow a b n)] w fun e w' => e = .returned (.bool true) ∧ Below w.heap.size w w' := by
  have HX := Lib.hid hp
  clear hp
  have H := Heap.start w
  have hcnt : ¬ (120 < (an : Int)) := by omega
  have HR := Lib.hid R
  have HL := Lib.hid hl
  have HF := Lib.hid hF
  clear R hl hF
  go_enter Try.func4, Try.ntmps4
  go_wp2_with (first | go_skip | ((with_reducible show wpList _ _ _ (_ :: _) _ _); (with_reducible apply wpl_boxRH); (· rfl); (· rfl); (· exact H); (clear H; intro px _ H); (simp only [Act.put, List.setIfInBounds_toArray, List.set_cons_zero, List.set_cons_succ])))
  refine (made_H ea an ac F HL.out hn HF.out (fun l' w' _ H' => HR.out.below H'.low) H).mono ?_
  clear H
  rintro e w1 ⟨p, q, rfl, H⟩
  have HG := Lib.hid (madeS_good F)
  generalize hS : madeS F = S at *
  clear hS
  go_wp2_with (go_skip)
  refine (of_H (p := p) (q := q) (S := S) cu hc HG.out H (by (repeat (first | (with_reducible exact List.mem_cons_self) | with_reducible apply List.mem_cons_of_mem))) (by (repeat (first | (with_reducible exact List.mem_cons_self) | with_reducible apply List.mem_cons_of_mem)))).mono ?_
  clear H
  rintro e w2 ⟨pg, rfl, H⟩
  go_wp2_with (go_skip)
  refine (copy_H (p := pg) (c := capsS S cu) H (by (repeat (first | (with_reducible exact List.mem_cons_self) | with_reducible apply List.mem_cons_of_mem)))).mono ?_
  clear H
  rintro e w3 ⟨pc, rfl, H⟩
  go_wp2_with (first | go_skip | ((with_reducible show wpList _ _ _ (_ :: _) _ _); (with_reducible apply wpl_loadCH); (· first | exact cell_party | exact cell_i64); (· rfl); (· rfl); (· exact H); (· (repeat (first | (with_reducible exact List.mem_cons_self) | with_reducible apply List.mem_cons_of_mem))); (· (with_reducible first | exact flow_g0 .. | exact flow_g1 .. | exact flow_g2 ..)); (simp only [Act.put, List.setIfInBounds_toArray, List.set_cons_zero, List.set_cons_succ])))
  have R1 := cap_H (W := w) (l := [Gr pc (capsS S cu), Gr pg (capsS S cu), LdC p S.P (some q), LdM q S.L, Cel px (flow a b n) 32]) (p := pc) (c := capsS S cu) a b ha hb (by (repeat (first | (with_reducible exact List.mem_cons_self) | with_reducible apply List.mem_cons_of_mem)))
  rw [capsS_cap HG.out] at R1
  have T1 := same_ans (W := w) (l := [Gr pc (capsS S cu), Gr pg (capsS S cu), LdC p S.P (some q), LdM q S.L, Cel px (flow a b n) 32]) (c := capsS S cu) (d := capsS S cu) (.pointer (some ⟨pg, 0, none⟩)) (.pointer (some ⟨pc, 0, none⟩)) (all_H (p := pg) (m := true) (by (repeat (first | (with_reducible exact List.mem_cons_self) | with_reducible apply List.mem_cons_of_mem))) (fun h => by cases h)) (all_H (p := pc) (m := true) (by (repeat (first | (with_reducible exact List.mem_cons_self) | with_reducible apply List.mem_cons_of_mem))) (fun h => by cases h))
  rw [show matSame (capsS S cu) (capsS S cu) = true from matSame_iff.2 (fun _ _ _ _ => rfl)] at T1
  have T2 : AnsH w [Gr pc (capsS S cu), Gr pg (capsS S cu), LdC p S.P (some q), LdM q S.L, Cel px (flow a b n) 32] 12 #[] (.bool true) := fun w' H' => lives05_H H' 
  refine (push_arg a b n (p := pg) (c := capsS S cu) (by (repeat (first | (with_reducible exact List.mem_cons_self) | with_reducible apply List.mem_cons_of_mem))) HX.out _ H).mono ?_
  clear H
  rintro e w4 ⟨rfl, H⟩
  have t1 : decide (n < 1) = true := decide_eq_true HX.out
  go_wp2_with (go_skip)
  refine wp_region_H H (by kernel_rfl) (by kernel_rfl) ?_
  repeat (first | go_big_quiet_skip | ((with_reducible apply wpQ_loadCH); (· first | exact cell_party | exact cell_i64); (· rfl); (· rfl); (· (repeat (first | (with_reducible exact List.mem_cons_self) | with_reducible apply List.mem_cons_of_mem))); (· (with_reducible first | exact flow_g0 .. | exact flow_g1 .. | exact flow_g2 ..)); (simp only [Act.put, List.setIfInBounds_toArray, List.set_cons_zero, List.set_cons_succ])) | go_big_quiet_step ((with_reducible first | exact AnsH.quiet (by assumption) | exact Ans.quietH (by assumption))))
  refine wpQuiet_nil ?_
  clear H
  intro _ H
  go_wp2_with (go_skip)
  go_ret
  exact ⟨rfl, H.low⟩
theorem graphsPair_route (w : World) (ea : Option Addr) (an ac cu : Nat) (F : List LAct) (a b : Nat) (n : Int) (hl : F.length = an) (hn : an ≤ 120) (hF : ∀ x ∈ F, ActOk x) (R : Rd w ea (actL F)) (hc : cu ≤ 255) (ha : a ≤ 255) (hb : b ≤ 255) (hr : -9223372036854775808 ≤ n ∧ n ≤ 9223372036854775807) (h1 : ¬ n < 1) (hp : capsS (madeS F) cu a b < n) :
    Calls Try.prog 4 #[.slice ea an ac, .int .u8 (cu : Int), .agg (flow a b n)] w fun e w' => e = .returned (.bool true) ∧ Below w.heap.size w w' := by
  have HX := Lib.hid (And.intro h1 hp)
  clear h1 hp
  have H := Heap.start w
  have hcnt : ¬ (120 < (an : Int)) := by omega
  have HR := Lib.hid R
  have HL := Lib.hid hl
  have HF := Lib.hid hF
  clear R hl hF
  go_enter Try.func4, Try.ntmps4
  go_wp2_with (first | go_skip | ((with_reducible show wpList _ _ _ (_ :: _) _ _); (with_reducible apply wpl_boxRH); (· rfl); (· rfl); (· exact H); (clear H; intro px _ H); (simp only [Act.put, List.setIfInBounds_toArray, List.set_cons_zero, List.set_cons_succ])))
  refine (made_H ea an ac F HL.out hn HF.out (fun l' w' _ H' => HR.out.below H'.low) H).mono ?_
  clear H
  rintro e w1 ⟨p, q, rfl, H⟩
  have HG := Lib.hid (madeS_good F)
  generalize hS : madeS F = S at *
  clear hS
  go_wp2_with (go_skip)
  refine (of_H (p := p) (q := q) (S := S) cu hc HG.out H (by (repeat (first | (with_reducible exact List.mem_cons_self) | with_reducible apply List.mem_cons_of_mem))) (by (repeat (first | (with_reducible exact List.mem_cons_self) | with_reducible apply List.mem_cons_of_mem)))).mono ?_
  clear H
  rintro e w2 ⟨pg, rfl, H⟩
  go_wp2_with (go_skip)
  refine (copy_H (p := pg) (c := capsS S cu) H (by (repeat (first | (with_reducible exact List.mem_cons_self) | with_reducible apply List.mem_cons_of_mem)))).mono ?_
  clear H
  rintro e w3 ⟨pc, rfl, H⟩
  go_wp2_with (first | go_skip | ((with_reducible show wpList _ _ _ (_ :: _) _ _); (with_reducible apply wpl_loadCH); (· first | exact cell_party | exact cell_i64); (· rfl); (· rfl); (· exact H); (· (repeat (first | (with_reducible exact List.mem_cons_self) | with_reducible apply List.mem_cons_of_mem))); (· (with_reducible first | exact flow_g0 .. | exact flow_g1 .. | exact flow_g2 ..)); (simp only [Act.put, List.setIfInBounds_toArray, List.set_cons_zero, List.set_cons_succ])))
  have R1 := cap_H (W := w) (l := [Gr pc (capsS S cu), Gr pg (capsS S cu), LdC p S.P (some q), LdM q S.L, Cel px (flow a b n) 32]) (p := pc) (c := capsS S cu) a b ha hb (by (repeat (first | (with_reducible exact List.mem_cons_self) | with_reducible apply List.mem_cons_of_mem)))
  rw [capsS_cap HG.out] at R1
  have T1 := same_ans (W := w) (l := [Gr pc (capsS S cu), Gr pg (capsS S cu), LdC p S.P (some q), LdM q S.L, Cel px (flow a b n) 32]) (c := capsS S cu) (d := capsS S cu) (.pointer (some ⟨pg, 0, none⟩)) (.pointer (some ⟨pc, 0, none⟩)) (all_H (p := pg) (m := true) (by (repeat (first | (with_reducible exact List.mem_cons_self) | with_reducible apply List.mem_cons_of_mem))) (fun h => by cases h)) (all_H (p := pc) (m := true) (by (repeat (first | (with_reducible exact List.mem_cons_self) | with_reducible apply List.mem_cons_of_mem))) (fun h => by cases h))
  rw [show matSame (capsS S cu) (capsS S cu) = true from matSame_iff.2 (fun _ _ _ _ => rfl)] at T1
  have T2 : AnsH w [Gr pc (capsS S cu), Gr pg (capsS S cu), LdC p S.P (some q), LdM q S.L, Cel px (flow a b n) 32] 12 #[] (.bool true) := fun w' H' => lives05_H H' 
  refine (push_route a b n ha hb (p := pg) (c := capsS S cu) (by (repeat (first | (with_reducible exact List.mem_cons_self) | with_reducible apply List.mem_cons_of_mem))) (by have := HX.out.1; omega) (by rw [capsS_cap HG.out]; exact HX.out.2) _ H).mono ?_
  clear H
  rintro e w4 ⟨rfl, H⟩
  have HX2 := HX.out.2
  have hrm := HG.out.room a b cu
  generalize hv : capsS S cu a b = v at *
  have t1 : decide (n > v) = true := decide_eq_true HX2
  have t2 : decide (v < n) = true := decide_eq_true HX2
  go_wp2_with (go_skip)
  refine wp_region_H H (by kernel_rfl) (by kernel_rfl) ?_
  repeat (first | go_big_quiet_skip | ((with_reducible apply wpQ_loadCH); (· first | exact cell_party | exact cell_i64); (· rfl); (· rfl); (· (repeat (first | (with_reducible exact List.mem_cons_self) | with_reducible apply List.mem_cons_of_mem))); (· (with_reducible first | exact flow_g0 .. | exact flow_g1 .. | exact flow_g2 ..)); (simp only [Act.put, List.setIfInBounds_toArray, List.set_cons_zero, List.set_cons_succ])) | go_big_quiet_step ((with_reducible first | exact AnsH.quiet (by assumption) | exact Ans.quietH (by assumption))))
  refine wpQuiet_nil ?_
  clear H
  intro _ H
  go_wp2_with (go_skip)
  go_ret
  exact ⟨rfl, H.low⟩
theorem graphsPair_yes (w : World) (ea : Option Addr) (an ac cu : Nat) (F : List LAct) (a b : Nat) (n : Int) (hl : F.length = an) (hn : an ≤ 120) (hF : ∀ x ∈ F, ActOk x) (R : Rd w ea (actL F)) (hc : cu ≤ 255) (ha : a ≤ 255) (hb : b ≤ 255) (hr : -9223372036854775808 ≤ n ∧ n ≤ 9223372036854775807) (h1 : 1 ≤ n) (hp : n ≤ capsS (madeS F) cu a b) :
    Calls Try.prog 4 #[.slice ea an ac, .int .u8 (cu : Int), .agg (flow a b n)] w fun e w' => e = .returned (.bool true) ∧ Below w.heap.size w w' := by
  have HX := Lib.hid (And.intro h1 hp)
  clear h1 hp
  have H := Heap.start w
  have hcnt : ¬ (120 < (an : Int)) := by omega
  have HR := Lib.hid R
  have HL := Lib.hid hl
  have HF := Lib.hid hF
  clear R hl hF
  go_enter Try.func4, Try.ntmps4
  go_wp2_with (first | go_skip | ((with_reducible show wpList _ _ _ (_ :: _) _ _); (with_reducible apply wpl_boxRH); (· rfl); (· rfl); (· exact H); (clear H; intro px _ H); (simp only [Act.put, List.setIfInBounds_toArray, List.set_cons_zero, List.set_cons_succ])))
  refine (made_H ea an ac F HL.out hn HF.out (fun l' w' _ H' => HR.out.below H'.low) H).mono ?_
  clear H
  rintro e w1 ⟨p, q, rfl, H⟩
  have HG := Lib.hid (madeS_good F)
  generalize hS : madeS F = S at *
  clear hS
  go_wp2_with (go_skip)
  refine (of_H (p := p) (q := q) (S := S) cu hc HG.out H (by (repeat (first | (with_reducible exact List.mem_cons_self) | with_reducible apply List.mem_cons_of_mem))) (by (repeat (first | (with_reducible exact List.mem_cons_self) | with_reducible apply List.mem_cons_of_mem)))).mono ?_
  clear H
  rintro e w2 ⟨pg, rfl, H⟩
  go_wp2_with (go_skip)
  refine (copy_H (p := pg) (c := capsS S cu) H (by (repeat (first | (with_reducible exact List.mem_cons_self) | with_reducible apply List.mem_cons_of_mem)))).mono ?_
  clear H
  rintro e w3 ⟨pc, rfl, H⟩
  go_wp2_with (first | go_skip | ((with_reducible show wpList _ _ _ (_ :: _) _ _); (with_reducible apply wpl_loadCH); (· first | exact cell_party | exact cell_i64); (· rfl); (· rfl); (· exact H); (· (repeat (first | (with_reducible exact List.mem_cons_self) | with_reducible apply List.mem_cons_of_mem))); (· (with_reducible first | exact flow_g0 .. | exact flow_g1 .. | exact flow_g2 ..)); (simp only [Act.put, List.setIfInBounds_toArray, List.set_cons_zero, List.set_cons_succ])))
  have hab := capsS_in HG.out (show capsS S cu a b ≠ 0 by have := HX.out; omega)
  have hne := hab.1
  have hrm := HG.out.room a b cu
  have hrm2 := HG.out.room b a cu
  have hu : upd2 (capsS S cu) a b (capsS S cu a b - n) b a = capsS S cu b a := by unfold upd2; rw [if_neg (fun e => hne e.1.symm)]
  have hm1 : capsS S cu a b ≤ 2199023255552 := hrm.2
  have hm2 : 0 ≤ capsS S cu b a ∧ capsS S cu b a ≤ 2199023255552 := hrm2
  have h2 := HX.out.1
  have h3 := HX.out.2
  refine (push_ok (p := pg) (c := capsS S cu) a b n hab.2.1 hab.2.2.1 hab.2.2.2.1 hab.2.2.2.2 (H.pull (.there .here)) h2 h3 (by omega) (by omega) (by omega)).mono ?_
  clear H
  rintro e w4 ⟨rfl, H⟩
  have HC := Lib.hid (fun x y : Nat => push_cap HG.out cu h2 h3 x y)
  have HB := Lib.hid (fun x y : Nat => pair_pos HG.out cu h2 h3 x y)
  have HN := Lib.hid (show ∀ c0 : Caps, c0 = c0 from fun _ => rfl)
  generalize hD : pushC (capsS S cu) a b n = D at *
  clear hD hu hm1 hm2 hrm hrm2
  have HH := Lib.hid hab
  have h23 := Lib.hid (And.intro h2 h3)
  clear hab h3
  go_wp2_with (go_skip)
  have H0 := H
  clear H
  go_loopw [10] (fun i wr => PairL w [Gr pg D, Gr pc (capsS S cu), LdC p S.P (some q), LdM q S.L, Cel px (flow a b n) 32] i wr) (fun i _ => 18 - (intOf i).toNat)
  case atStart => exact ⟨0, by omega, rfl, H0⟩
  case round =>
    obtain ⟨k, hk, rfl, H⟩ := hrel.out
    clear H0 hrel
    by_cases hlt : k < 18
    · go_wp2_with (go_skip)
      have hdk : decide ((k : Int) < 18) = true := decide_eq_true (by omega)
      rw [hdk]
      clear hdk
      have HK := Lib.hid hlt
      clear hlt
      have H0 := H
      clear H
      go_loopw [11] (fun i wr => PairL w [Gr pg D, Gr pc (capsS S cu), LdC p S.P (some q), LdM q S.L, Cel px (flow a b n) 32] i wr) (fun i _ => 18 - (intOf i).toNat)
      case atStart => exact ⟨0, by omega, rfl, H0⟩
      case round =>
        obtain ⟨j, hj, rfl, H⟩ := hrel.out
        clear H0 hrel
        by_cases hjt : j < 18
        · have R1 := cap_H (W := w) (l := [Gr pg D, Gr pc (capsS S cu), LdC p S.P (some q), LdM q S.L, Cel px (flow a b n) 32]) (p := pg) (c := D) k j (by omega) (by omega) (by (repeat (first | (with_reducible exact List.mem_cons_self) | with_reducible apply List.mem_cons_of_mem)))
          have R2 := cap_H (W := w) (l := [Gr pg D, Gr pc (capsS S cu), LdC p S.P (some q), LdM q S.L, Cel px (flow a b n) 32]) (p := pc) (c := capsS S cu) k j (by omega) (by omega) (by (repeat (first | (with_reducible exact List.mem_cons_self) | with_reducible apply List.mem_cons_of_mem)))
          rw [HC.out k j] at R1
          rw [capsS_cap HG.out] at R2
          have hv := HB.out k j
          generalize capsS S cu k j = v at *
          have hmain : (∃ g1 g2 g3 g4 : Bool, True) := ⟨true, true, true, true, trivial⟩
          clear hmain
          rcases (show (k = a ∧ j = b) ∨ (k = a ∧ j ≠ b) ∨ (k = b ∧ j = a) ∨ (k = b ∧ j ≠ a) ∨ (k ≠ a ∧ k ≠ b) from by omega) with e | e | e | e | e
          · have hd : pairD a b n k j = (-n) := by unfold pairD; rw [if_pos e]
            rw [hd] at hv R1
            clear hd
            have g1 : ((k : Int) == (a : Int)) = true := by simp [e]
            have g2 : ((j : Int) == (b : Int)) = true := by simp [e]
            have g3 : ((k : Int) == (b : Int)) = false := by have := e; have := hne; simp; omega
            have e1 : wrap64 (v + (-n) - v) = (-n) := by rw [show v + (-n) - v = (-n) by omega]; exact IntWalk.wrap64_in _ ⟨by omega, by omega⟩
            have e2 : wrap64 (-n) = -n := IntWalk.wrap64_in _ ⟨by omega, by omega⟩
            have e3 : decide (v + (-n) < 0) = false := decide_eq_false (by omega)
            have e4 : (-n != -n) = false := by simp
            have e5 : (n != n) = false := by simp
            generalize hz : v + (-n) = z at *
            clear hz
            clear e hv
            go_wp2_with (first | go_skip | ((with_reducible refine AnsH.call (by assumption) H ?_); clear H; intro _ H) | ((with_reducible show wpList _ _ _ (_ :: _) _ _); (with_reducible apply wpl_loadCH); (· first | exact cell_party | exact cell_i64); (· rfl); (· rfl); (· exact H); (· (repeat (first | (with_reducible exact List.mem_cons_self) | with_reducible apply List.mem_cons_of_mem))); (· (with_reducible first | exact flow_g0 .. | exact flow_g1 .. | exact flow_g2 ..)); (simp only [Act.put, List.setIfInBounds_toArray, List.set_cons_zero, List.set_cons_succ])))
            refine ⟨⟨j + 1, by omega, by go_num, H⟩, ?measure⟩
            case measure => simp [intOf]; omega
          · have hd : pairD a b n k j = 0 := by unfold pairD; rw [if_neg (by have := e; have := hne; omega), if_neg (by have := e; have := hne; omega)]
            rw [hd] at hv R1
            clear hd
            have g1 : ((k : Int) == (a : Int)) = true := by simp [e]
            have g2 : ((j : Int) == (b : Int)) = false := by have := e; have := hne; simp; omega
            have g3 : ((k : Int) == (b : Int)) = false := by have := e; have := hne; simp; omega
            have e1 : wrap64 (v + 0 - v) = 0 := by rw [show v + 0 - v = 0 by omega]; exact IntWalk.wrap64_in _ ⟨by omega, by omega⟩
            have e2 : wrap64 (-n) = -n := IntWalk.wrap64_in _ ⟨by omega, by omega⟩
            have e3 : decide (v + 0 < 0) = false := decide_eq_false (by omega)
            have e4 : (-n != -n) = false := by simp
            have e5 : (n != n) = false := by simp
            generalize hz : v + 0 = z at *
            clear hz
            clear e hv
            go_wp2_with (first | go_skip | ((with_reducible refine AnsH.call (by assumption) H ?_); clear H; intro _ H) | ((with_reducible show wpList _ _ _ (_ :: _) _ _); (with_reducible apply wpl_loadCH); (· first | exact cell_party | exact cell_i64); (· rfl); (· rfl); (· exact H); (· (repeat (first | (with_reducible exact List.mem_cons_self) | with_reducible apply List.mem_cons_of_mem))); (· (with_reducible first | exact flow_g0 .. | exact flow_g1 .. | exact flow_g2 ..)); (simp only [Act.put, List.setIfInBounds_toArray, List.set_cons_zero, List.set_cons_succ])))
            refine ⟨⟨j + 1, by omega, by go_num, H⟩, ?measure⟩
            case measure => simp [intOf]; omega
          · have hd : pairD a b n k j = n := by unfold pairD; rw [if_neg (by have := e; have := hne; omega), if_pos e]
            rw [hd] at hv R1
            clear hd
            have g1 : ((k : Int) == (a : Int)) = false := by have := e; have := hne; simp; omega
            have g3 : ((k : Int) == (b : Int)) = true := by simp [e]
            have g4 : ((j : Int) == (a : Int)) = true := by simp [e]
            have e1 : wrap64 (v + n - v) = n := by rw [show v + n - v = n by omega]; exact IntWalk.wrap64_in _ ⟨by omega, by omega⟩
            have e2 : wrap64 (-n) = -n := IntWalk.wrap64_in _ ⟨by omega, by omega⟩
            have e3 : decide (v + n < 0) = false := decide_eq_false (by omega)
            have e4 : (-n != -n) = false := by simp
            have e5 : (n != n) = false := by simp
            generalize hz : v + n = z at *
            clear hz
            clear e hv
            go_wp2_with (first | go_skip | ((with_reducible refine AnsH.call (by assumption) H ?_); clear H; intro _ H) | ((with_reducible show wpList _ _ _ (_ :: _) _ _); (with_reducible apply wpl_loadCH); (· first | exact cell_party | exact cell_i64); (· rfl); (· rfl); (· exact H); (· (repeat (first | (with_reducible exact List.mem_cons_self) | with_reducible apply List.mem_cons_of_mem))); (· (with_reducible first | exact flow_g0 .. | exact flow_g1 .. | exact flow_g2 ..)); (simp only [Act.put, List.setIfInBounds_toArray, List.set_cons_zero, List.set_cons_succ])))
            refine ⟨⟨j + 1, by omega, by go_num, H⟩, ?measure⟩
            case measure => simp [intOf]; omega
          · have hd : pairD a b n k j = 0 := by unfold pairD; rw [if_neg (by have := e; have := hne; omega), if_neg (by have := e; have := hne; omega)]
            rw [hd] at hv R1
            clear hd
            have g1 : ((k : Int) == (a : Int)) = false := by have := e; have := hne; simp; omega
            have g3 : ((k : Int) == (b : Int)) = true := by simp [e]
            have g4 : ((j : Int) == (a : Int)) = false := by have := e; have := hne; simp; omega
            have e1 : wrap64 (v + 0 - v) = 0 := by rw [show v + 0 - v = 0 by omega]; exact IntWalk.wrap64_in _ ⟨by omega, by omega⟩
            have e2 : wrap64 (-n) = -n := IntWalk.wrap64_in _ ⟨by omega, by omega⟩
            have e3 : decide (v + 0 < 0) = false := decide_eq_false (by omega)
            have e4 : (-n != -n) = false := by simp
            have e5 : (n != n) = false := by simp
            generalize hz : v + 0 = z at *
            clear hz
            clear e hv
            go_wp2_with (first | go_skip | ((with_reducible refine AnsH.call (by assumption) H ?_); clear H; intro _ H) | ((with_reducible show wpList _ _ _ (_ :: _) _ _); (with_reducible apply wpl_loadCH); (· first | exact cell_party | exact cell_i64); (· rfl); (· rfl); (· exact H); (· (repeat (first | (with_reducible exact List.mem_cons_self) | with_reducible apply List.mem_cons_of_mem))); (· (with_reducible first | exact flow_g0 .. | exact flow_g1 .. | exact flow_g2 ..)); (simp only [Act.put, List.setIfInBounds_toArray, List.set_cons_zero, List.set_cons_succ])))
            refine ⟨⟨j + 1, by omega, by go_num, H⟩, ?measure⟩
            case measure => simp [intOf]; omega
          · have hd : pairD a b n k j = 0 := by unfold pairD; rw [if_neg (by have := e; have := hne; omega), if_neg (by have := e; have := hne; omega)]
            rw [hd] at hv R1
            clear hd
            have g1 : ((k : Int) == (a : Int)) = false := by have := e; have := hne; simp; omega
            have g3 : ((k : Int) == (b : Int)) = false := by have := e; have := hne; simp; omega
            have e1 : wrap64 (v + 0 - v) = 0 := by rw [show v + 0 - v = 0 by omega]; exact IntWalk.wrap64_in _ ⟨by omega, by omega⟩
            have e2 : wrap64 (-n) = -n := IntWalk.wrap64_in _ ⟨by omega, by omega⟩
            have e3 : decide (v + 0 < 0) = false := decide_eq_false (by omega)
            have e4 : (-n != -n) = false := by simp
            have e5 : (n != n) = false := by simp
            generalize hz : v + 0 = z at *
            clear hz
            clear e hv
            go_wp2_with (first | go_skip | ((with_reducible refine AnsH.call (by assumption) H ?_); clear H; intro _ H) | ((with_reducible show wpList _ _ _ (_ :: _) _ _); (with_reducible apply wpl_loadCH); (· first | exact cell_party | exact cell_i64); (· rfl); (· rfl); (· exact H); (· (repeat (first | (with_reducible exact List.mem_cons_self) | with_reducible apply List.mem_cons_of_mem))); (· (with_reducible first | exact flow_g0 .. | exact flow_g1 .. | exact flow_g2 ..)); (simp only [Act.put, List.setIfInBounds_toArray, List.set_cons_zero, List.set_cons_succ])))
            refine ⟨⟨j + 1, by omega, by go_num, H⟩, ?measure⟩
            case measure => simp [intOf]; omega
        · obtain rfl : j = 18 := by omega
          go_wp2_with (go_skip)
          refine ⟨⟨k + 1, HK.out, by go_num, H⟩, ?measure2⟩
          case measure2 => have := HK.out; simp [intOf]; omega
    · obtain rfl : k = 18 := by omega
      have R1 := cap_H (W := w) (l := [Gr pg D, Gr pc (capsS S cu), LdC p S.P (some q), LdM q S.L, Cel px (flow a b n) 32]) (p := pg) (c := D) a b ha hb (by (repeat (first | (with_reducible exact List.mem_cons_self) | with_reducible apply List.mem_cons_of_mem)))
      have R2 := cap_H (W := w) (l := [Gr pg D, Gr pc (capsS S cu), LdC p S.P (some q), LdM q S.L, Cel px (flow a b n) 32]) (p := pg) (c := D) b a hb ha (by (repeat (first | (with_reducible exact List.mem_cons_self) | with_reducible apply List.mem_cons_of_mem)))
      have R3 := cap_H (W := w) (l := [Gr pg D, Gr pc (capsS S cu), LdC p S.P (some q), LdM q S.L, Cel px (flow a b n) 32]) (p := pc) (c := capsS S cu) a b ha hb (by (repeat (first | (with_reducible exact List.mem_cons_self) | with_reducible apply List.mem_cons_of_mem)))
      have R4 := cap_H (W := w) (l := [Gr pg D, Gr pc (capsS S cu), LdC p S.P (some q), LdM q S.L, Cel px (flow a b n) 32]) (p := pc) (c := capsS S cu) b a hb ha (by (repeat (first | (with_reducible exact List.mem_cons_self) | with_reducible apply List.mem_cons_of_mem)))
      rw [HC.out a b] at R1
      rw [HC.out b a] at R2
      rw [capsS_cap HG.out] at R3 R4
      have d1 : pairD a b n a b = -n := by unfold pairD; rw [if_pos ⟨rfl, rfl⟩]
      have d2 : pairD a b n b a = n := by unfold pairD; rw [if_neg (by have := hne; omega), if_pos ⟨rfl, rfl⟩]
      have v1 := HB.out a b
      have v2 := HB.out b a
      rw [d1] at R1 v1
      rw [d2] at R2 v2
      clear d1 d2
      generalize capsS S cu a b = x at *
      generalize capsS S cu b a = y at *
      have T2 : AnsH w [Gr pg D, Gr pc (capsS S cu), LdC p S.P (some q), LdM q S.L, Cel px (flow a b n) 32] 12 #[] (.bool true) := fun w' H' => lives05_H H'
      have e0 : x + -n + (y + n) = x + y := by omega
      generalize x + -n = z1 at *
      generalize y + n = z2 at *
      have e1 : wrap64 (z1 + z2) = wrap64 (x + y) := by rw [e0]
      clear e0 v1 v2
      obtain ⟨s, e2⟩ : ∃ s, wrap64 (x + y) = s := ⟨_, rfl⟩
      rw [e2] at e1
      have e3 : (s == s) = true := by simp
      go_wp2_with (go_skip)
      refine wp_region_H H (by kernel_rfl) (by kernel_rfl) ?_
      repeat (first | go_big_quiet_skip | ((with_reducible apply wpQ_loadCH); (· first | exact cell_party | exact cell_i64); (· rfl); (· rfl); (· (repeat (first | (with_reducible exact List.mem_cons_self) | with_reducible apply List.mem_cons_of_mem))); (· (with_reducible first | exact flow_g0 .. | exact flow_g1 .. | exact flow_g2 ..)); (simp only [Act.put, List.setIfInBounds_toArray, List.set_cons_zero, List.set_cons_succ])) | go_big_quiet_step ((with_reducible first | exact AnsH.quiet (by assumption) | exact Ans.quietH (by assumption))))
      refine wpQuiet_nil ?_
      clear H
      intro _ H
      go_wp2_with (go_skip)
      go_ret
      exact ⟨rfl, H.low⟩
end Go.Proofs.Ytgobnamhdkbbeaa

/- What a push leaves as it was: all other rooms. -/
namespace Go.Proofs.Ytgobnamhdkbbeaa
section
variable {S : Lgr}
theorem push_room_other {f t c n x y d : Int} (hne : ¬ (d = c ∧ (x = f ∧ y = t ∨ x = t ∧ y = f))) : roomOf (pushS S f t c n) x y d = roomOf S x y d := by
  unfold pushS
  split
  · unfold roomOf
    simp only [debOf_add, limOf_add, isLine_add]
    have a1 : ¬ (x = f ∧ y = t ∧ d = c) := fun h => hne ⟨h.2.2, .inl ⟨h.1, h.2.1⟩⟩
    have a2 : ¬ (x = t ∧ y = f ∧ d = c) := fun h => hne ⟨h.2.2, .inr ⟨h.1, h.2.1⟩⟩
    have a3 : ¬ (y = f ∧ x = t ∧ d = c) := fun h => hne ⟨h.2.2, .inr ⟨h.2.1, h.1⟩⟩
    have a4 : ¬ (y = t ∧ x = f ∧ d = c) := fun h => hne ⟨h.2.2, .inl ⟨h.2.1, h.1⟩⟩
    simp only [a1, a2, a3, a4, and_false, if_false, Int.add_zero]
  · rfl
end
end Go.Proofs.Ytgobnamhdkbbeaa
