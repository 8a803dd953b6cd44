/- FlowsMost: part 15 of its proof: Shape, Open05, LawPathsLeast, Route7b, Flow3, RouteA, Flow4. -/
import Derived.Test.YtglehneaphigdaaFlowsMostPart14
import Derived.Test.YtglehneaphigdaaProg
import Derived.ProofKit
import Derived.OpenShut
import Derived.ChangeOld
import Derived.Lib.SmallJoins
/- Arguments of whatever type, opened: a value's cells are those of its parts, one behind the other; a slice's elements likewise, however deep. -/
namespace Go.Proofs.Ytglehneaphigdaa
open Go.ChangeShapes Go.WideShapes Go.ChangeAt Go.RowKit
set_option linter.unusedSimpArgs false

/-- The parts of fields, one behind the other; none, if they do not lie so. -/
def flatFs (P : Program) (g : TypeId → Option (List TypeId)) : Nat → List Field → Option (List TypeId)
  | _, [] => some []
  | o, f :: fs => (g f.type).bind fun ts => if f.offset = o ∧ ts.length = P.cellsOf f.type then (flatFs P g (o + ts.length) fs).map (ts ++ ·) else none
def repFlat (ts : List TypeId) : Nat → List TypeId
  | 0 => []
  | n + 1 => ts ++ repFlat ts n
/-- The one-cell parts of a type. -/
def flat (P : Program) : Nat → TypeId → Option (List TypeId)
  | 0, _ => none
  | d + 1, t => match P.underlying t with
    | some (.int _) => some [t]
    | some .bool => some [t]
    | some (.slice _) => some [t]
    | some (.struct fs) => (flatFs P (flat P d) 0 fs.toList).bind fun ts => if ts.length = P.cellsOf t then some ts else none
    | some (.array n e) => (flat P d e).bind fun ts => if ts.length = P.cellsOf e ∧ n * ts.length = P.cellsOf t then some (repFlat ts n) else none
    | _ => none
section
variable {H : Type} {enc : TypeId × Value → H} {P : Program} {w : World} {base : Nat} {spare : Nat → Bool} {held : Bool}
/-- What a cell of such a part holds. -/
def PartOk (enc : TypeId × Value → H) (P : Program) (w : World) (base : Nat) (spare : Nat → Bool) (held : Bool) (u : TypeId) (v : Value) : Prop := ∃ m y, DataW.trod enc P w base spare held m u [v] = some y
theorem flatFs_spec {g : TypeId → Option (List TypeId)}
    (hg : ∀ (t : TypeId) (ts : List TypeId), g t = some ts → ∀ (fuel : Nat) (cs : List Value) (x : DataW H × List MemPlace), DataW.trod enc P w base spare held fuel t cs = some x → cs.length = ts.length ∧ ∀ (i : Nat) (u : TypeId), ts[i]? = some u → ∃ v, cs[i]? = some v ∧ PartOk enc P w base spare held u v) (cs : List Value) :
    ∀ (fs : List Field) (o : Nat) (ts : List TypeId), flatFs P g o fs = some ts → (∀ f ∈ fs, ∃ n y, DataW.trod enc P w base spare held n f.type ((cs.drop f.offset).take (P.cellsOf f.type)) = some y) →
      ∀ (i : Nat) (u : TypeId), ts[i]? = some u → ∃ v, cs[o + i]? = some v ∧ PartOk enc P w base spare held u v := by
  intro fs
  induction fs with
  | nil =>
    intro o ts h _ i u hu
    simp [flatFs] at h
    subst h
    simp at hu
  | cons f fs ih =>
    intro o ts h hall i u hu
    simp only [flatFs, Option.bind_eq_some_iff] at h
    obtain ⟨t1, h1, h2⟩ := h
    split at h2
    · rename_i hc
      obtain ⟨t2, h3, rfl⟩ := Option.map_eq_some_iff.1 h2
      obtain ⟨n, y, hy⟩ := hall f (List.mem_cons_self ..)
      obtain ⟨hl, hp⟩ := hg _ _ h1 _ _ _ hy
      by_cases hi : i < t1.length
      · rw [List.getElem?_append_left hi] at hu
        obtain ⟨v, hv, hk⟩ := hp i u hu
        refine ⟨v, ?_, hk⟩
        rw [hc.1, List.getElem?_take] at hv
        split at hv
        · rw [List.getElem?_drop] at hv; exact hv
        · cases hv
      · rw [List.getElem?_append_right (by omega)] at hu
        obtain ⟨v, hv, hk⟩ := ih _ _ h3 (fun f hf => hall f (List.mem_cons_of_mem _ hf)) _ _ hu
        exact ⟨v, by rw [← hv]; congr 1; omega, hk⟩
    · cases h2
theorem repFlat_len (ts : List TypeId) : ∀ n, (repFlat ts n).length = n * ts.length
  | 0 => by simp [repFlat]
  | n + 1 => by simp [repFlat, repFlat_len ts n, Nat.add_mul]; omega
theorem repFlat_spec {cs : List Value} {ts : List TypeId} {L : Nat} (hL : ts.length = L) (e : TypeId) :
    ∀ (n k : Nat), (∀ (i : Nat), i < n → ∀ (j : Nat) (u : TypeId), ts[j]? = some u → ∃ v, ((cs.drop ((k + i) * L)).take L)[j]? = some v ∧ PartOk enc P w base spare held u v) →
      ∀ (i : Nat) (u : TypeId), (repFlat ts n)[i]? = some u → ∃ v, cs[k * L + i]? = some v ∧ PartOk enc P w base spare held u v := by
  intro n
  induction n with
  | zero => intro k _ i u hu; simp [repFlat] at hu
  | succ n ih =>
    intro k hall i u hu
    simp only [repFlat] at hu
    by_cases hi : i < ts.length
    · rw [List.getElem?_append_left hi] at hu
      obtain ⟨v, hv, hk⟩ := hall 0 (by omega) i u hu
      refine ⟨v, ?_, hk⟩
      rw [List.getElem?_take] at hv
      split at hv
      · rw [List.getElem?_drop] at hv; simpa using hv
      · cases hv
    · rw [List.getElem?_append_right (by omega)] at hu
      obtain ⟨v, hv, hk⟩ := ih (k + 1) (fun i hi j u hu => by have := hall (i + 1) (by omega) j u hu; rwa [show k + (i + 1) = k + 1 + i by omega] at this) _ _ hu
      exact ⟨v, by rw [← hv]; congr 1; rw [Nat.add_mul]; omega, hk⟩
theorem flat_spec : ∀ (d : Nat) (t : TypeId) (ts : List TypeId), flat P d t = some ts → ∀ (fuel : Nat) (cs : List Value) (x : DataW H × List MemPlace), DataW.trod enc P w base spare held fuel t cs = some x →
    cs.length = ts.length ∧ ∀ (i : Nat) (u : TypeId), ts[i]? = some u → ∃ v, cs[i]? = some v ∧ PartOk enc P w base spare held u v := by
  intro d
  induction d with
  | zero => intro t ts h; simp [flat] at h
  | succ d ih =>
    intro t ts h fuel cs x hx
    have one : ∀ v, cs = [v] → ts = [t] → cs.length = ts.length ∧ ∀ (i : Nat) (u : TypeId), ts[i]? = some u → ∃ v, cs[i]? = some v ∧ PartOk enc P w base spare held u v := by
      rintro v rfl rfl
      refine ⟨rfl, fun i u hu => ?_⟩
      rcases i with _ | i
      · simp at hu; subst hu; exact ⟨v, rfl, _, _, hx⟩
      · simp at hu
    unfold flat at h
    split at h
    · rename_i k hk
      obtain ⟨n, rfl, _⟩ := DataW.trod_int hk hx
      exact one _ rfl (by simpa using h.symm)
    · rename_i hk
      obtain ⟨n, rfl, _⟩ := DataW.trod_bool hk hx
      exact one _ rfl (by simpa using h.symm)
    · rename_i e hk
      rcases DataW.trod_slice hk hx with ⟨rfl, _⟩ | ⟨a, len, cap, elems, rest, n, _, rfl, _⟩
      · exact one _ rfl (by simpa using h.symm)
      · exact one _ rfl (by simpa using h.symm)
    · rename_i fs hk
      simp only [Option.bind_eq_some_iff] at h
      obtain ⟨t1, h1, h2⟩ := h
      split at h2
      · rename_i hl
        cases h2
        obtain ⟨xs, m, _, _, hlen, hxs, hf⟩ := DataW.trod_struct hk hx
        refine ⟨by rw [hlen, hl], fun i u hu => ?_⟩
        have := flatFs_spec (fun t ts h => ih t ts h) cs fs.toList 0 ts h1 (fun f hf' => by
          obtain ⟨j, hj, rfl⟩ := List.getElem_of_mem hf'
          have hj' : j < fs.size := by simpa using hj
          have h3 := hf j fs[j] (by simp [hj'])
          have hj2 : j < xs.length := by omega
          exact ⟨m, xs[j], by simpa [hj2] using h3⟩) i u hu
        simpa using this
      · cases h2
    · rename_i n e hk
      simp only [Option.bind_eq_some_iff] at h
      obtain ⟨t1, h1, h2⟩ := h
      split at h2
      · rename_i hl
        cases h2
        obtain ⟨xs, m, _, _, hlen, hxs, hf⟩ := DataW.trod_array hk hx
        refine ⟨by rw [hlen, repFlat_len, hl.2], fun i u hu => ?_⟩
        have := repFlat_spec (cs := cs) hl.1 e n 0 (fun i hi j u hu => by
          have h3 := hf i hi
          have hi2 : i < xs.length := by omega
          have h4 : DataW.trod enc P w base spare held m e ((cs.drop (i * P.cellsOf e)).take (P.cellsOf e)) = some xs[i] := by rw [h3]; simp [hi2]
          rw [Nat.zero_add]
          exact (ih e t1 h1 _ _ _ h4).2 j u hu) i u hu
        simpa using this
      · cases h2
    · cases h

theorem add_add (a : Addr) (m k : Nat) : (a.add m).add k = a.add (m + k) := by
  unfold Addr.add
  by_cases hm : m = 0
  · subst hm; simp
  · by_cases hk : k = 0
    · subst hk; simp
    · simp [hm, hk]; omega
/-- What a one-cell part holds, d slices deep. -/
def LeafOk (P : Program) (w : World) : Nat → TypeId → Value → Prop
  | 0, _, _ => True
  | d + 1, u, v => match P.underlying u with
    | some (.int k) => ∃ n, v = .int k n ∧ (Lit.int k n).wf = true
    | some .bool => ∃ b, v = .bool b
    | some (.slice e) => ∃ a n c xs, v = .slice a n c ∧ n ≤ c ∧ c ≤ maxLen ∧ xs.length = n * P.cellsOf e ∧ Rd w a xs ∧ (a = none → n = 0 ∧ c = 0) ∧
        ∀ ts : List TypeId, flat P 9 e = some ts → ∀ (i j : Nat) (u' : TypeId), i < n → ts[j]? = some u' → ∃ v', xs[i * P.cellsOf e + j]? = some v' ∧ LeafOk P w d u' v'
    | _ => True
theorem cells_get {a : Addr} {n : Nat} {cs : List Value} (h : w.cells? 0 a n = some cs) : cs.length = n ∧ ∀ i, i < n → w.cell? (a.add i) = cs[i]? := by
  unfold World.cells? at h
  rw [if_pos (Nat.zero_le _)] at h
  refine ⟨by simpa using mapM_some_length h, fun i hi => ?_⟩
  have := mapM_some_get h i i (by simp [hi])
  exact this
theorem leaf_ok : ∀ (d : Nat) (u : TypeId) (v : Value), PartOk enc P w 0 (fun _ => true) held u v → LeafOk P w d u v := by
  intro d
  induction d with
  | zero => intros; trivial
  | succ d ih =>
    intro u v h
    obtain ⟨m, y, hy⟩ := h
    unfold LeafOk
    split
    · rename_i k hk
      obtain ⟨n, hv, _, hw⟩ := DataW.trod_int hk hy
      simp at hv
      exact ⟨n, hv, hw⟩
    · rename_i hk
      obtain ⟨b, hv, _⟩ := DataW.trod_bool hk hy
      simp at hv
      exact ⟨b, hv⟩
    · rename_i e hk
      rcases DataW.trod_slice hk hy with ⟨hv, _⟩ | ⟨a, len, cap, elems, rest, n, _, hv, _, _, hl, hm, hlen, hel, _, _⟩
      · simp at hv
        exact ⟨none, 0, 0, [], hv, Nat.le_refl _, by unfold maxLen; omega, by simp, Rd.nil _ _, fun _ => ⟨rfl, rfl⟩, fun ts hts i j u' hi => by omega⟩
      · simp at hv
        have each : ∀ i, i < len → ∃ cs y, w.cells? 0 (a.add (i * P.cellsOf e)) (P.cellsOf e) = some cs ∧ DataW.trod enc P w 0 (fun _ => true) held n e cs = some y := by
          intro i hi
          have h1 := hel i hi
          have hi2 : i < elems.length := by omega
          rw [List.getElem?_eq_getElem hi2] at h1
          obtain ⟨cs, h2, h3⟩ := Option.bind_eq_some_iff.1 h1
          exact ⟨cs, _, h2, h3⟩
        have cell : ∀ k, k < len * P.cellsOf e → ∃ x, w.cell? (a.add k) = some x := by
          intro k hk'
          have hpos : 0 < P.cellsOf e := Nat.pos_of_ne_zero fun h => by rw [h] at hk'; simp at hk'
          have hi : k / P.cellsOf e < len := by rw [Nat.div_lt_iff_lt_mul hpos]; exact hk'
          obtain ⟨cs, _, h1, _⟩ := each _ hi
          obtain ⟨hl, hg⟩ := cells_get h1
          have hm := Nat.mod_lt k hpos
          have := hg _ hm
          rw [add_add, Nat.mul_comm, Nat.div_add_mod] at this
          exact ⟨cs[k % P.cellsOf e], by rw [this]; simp [hl, hm]⟩
        have hxl : ((List.range (len * P.cellsOf e)).map fun j => (w.cell? (a.add j)).getD undef).length = len * P.cellsOf e := by simp
        have hget : ∀ k, k < len * P.cellsOf e → ((List.range (len * P.cellsOf e)).map fun j => (w.cell? (a.add j)).getD undef)[k]? = w.cell? (a.add k) := by
          intro k hk'
          obtain ⟨x, hx⟩ := cell k hk'
          simp [hk', hx]
        refine ⟨some a, len, cap, _, hv, hl, hm, hxl, Rd.ofCells fun k hk' => ?_, (fun h => by cases h), fun ts hts i j u' hi hj => ?_⟩
        · rw [hxl] at hk'
          rw [← hget k hk']
          exact List.getElem?_eq_getElem _
        · obtain ⟨cs, y', h1, h2⟩ := each i hi
          obtain ⟨hl, hg⟩ := cells_get h1
          obtain ⟨hlen2, hp⟩ := flat_spec 9 e ts hts _ _ _ h2
          obtain ⟨v', hv', hk'⟩ := hp j u' hj
          have hjl : j < P.cellsOf e := by have := (List.getElem?_eq_some_iff.1 hj).1; omega
          have hb : i * P.cellsOf e + j < len * P.cellsOf e := by
            have := Nat.mul_le_mul_right (P.cellsOf e) (show i + 1 ≤ len by omega)
            rw [Nat.add_mul] at this
            omega
          refine ⟨v', ?_, ih _ _ hk'⟩
          rw [hget _ hb, ← add_add, hg j hjl]
          exact hv'
    · trivial
/-- A value of a type whose parts lie one behind the other: its cells. -/
theorem open_flat {r : Reach} {b0 : Nat} {t : TypeId} {v : Value} {d : DataW H} {p : List MemPlace} {ts : List TypeId} (hs : (∃ fs, P.underlying t = some (.struct fs)) ∨ ∃ n e, P.underlying t = some (.array n e)) (hf : flat P 9 t = some ts)
    (hv : Value.okWide P w r b0 t v) (h : DataW.Trod enc P w 0 (fun _ => true) held t v d p) : ∃ cs : Array Value, v = .agg cs ∧ cs.size = ts.length ∧ ∀ (i : Nat) (u : TypeId), ts[i]? = some u → ∃ x, cs[i]? = some x ∧ ∀ d, LeafOk P w d u x := by
  have hcs : ∃ cs, v = .agg cs ∧ cs.size = P.cellsOf t := by
    unfold Value.okWide at hv
    rcases hs with ⟨fs, hs⟩ | ⟨n, e, hs⟩ <;> rw [hs] at hv <;> obtain ⟨cs, h1, h2, _⟩ := hv <;> exact ⟨cs, h1, h2⟩
  obtain ⟨cs, rfl, _⟩ := hcs
  obtain ⟨fuel, h1⟩ := h
  obtain ⟨hl, hp⟩ := flat_spec 9 t ts hf _ _ _ h1
  simp only [Value.cells] at hl hp
  refine ⟨cs, rfl, by simpa using hl, fun i u hu => ?_⟩
  obtain ⟨x, hx, hk⟩ := hp i u hu
  exact ⟨x, by simpa using hx, fun d => leaf_ok d u x hk⟩
/-- A slice's value, d slices deep. -/
theorem open_sl {r : Reach} {b0 : Nat} {t e : TypeId} {v : Value} {dd : DataW H} {p : List MemPlace} (hs : P.underlying t = some (.slice e)) (hv : Value.okWide P w r b0 t v) (h : DataW.Trod enc P w 0 (fun _ => true) held t v dd p) (d : Nat) : LeafOk P w d t v := by
  obtain ⟨a, n, c, rfl⟩ := okWide_slice hs hv
  obtain ⟨fuel, h1⟩ := h
  exact leaf_ok d t _ ⟨fuel, _, h1⟩
theorem leaf_int {u : TypeId} {k : IntKind} {v : Value} (hu : P.underlying u = some (.int k)) (h : ∀ d, LeafOk P w d u v) : ∃ n, v = .int k n ∧ (Lit.int k n).wf = true := by
  have h := h 1
  unfold LeafOk at h
  rw [hu] at h
  exact h
theorem leaf_bool {u : TypeId} {v : Value} (hu : P.underlying u = some .bool) (h : ∀ d, LeafOk P w d u v) : ∃ b, v = .bool b := by
  have h := h 1
  unfold LeafOk at h
  rw [hu] at h
  exact h
theorem leaf_slice {u e : TypeId} {v : Value} (hu : P.underlying u = some (.slice e)) {ts : List TypeId} (hf : flat P 9 e = some ts) (h : ∀ d, LeafOk P w d u v) :
    ∃ a n c xs, v = .slice a n c ∧ n ≤ c ∧ c ≤ maxLen ∧ xs.length = n * P.cellsOf e ∧ Rd w a xs ∧ (a = none → n = 0 ∧ c = 0) ∧ ∀ (i j : Nat) (u' : TypeId), i < n → ts[j]? = some u' → ∃ v', xs[i * P.cellsOf e + j]? = some v' ∧ ∀ d, LeafOk P w d u' v' := by
  have h1 := h 1
  unfold LeafOk at h1
  rw [hu] at h1
  obtain ⟨a, n, c, xs, rfl, hn, hc, hl, hr, h0, hp⟩ := h1
  refine ⟨a, n, c, xs, rfl, hn, hc, hl, hr, h0, fun i j u' hi hj => ?_⟩
  obtain ⟨v', hv', _⟩ := hp ts hf i j u' hi hj
  refine ⟨v', hv', fun d => ?_⟩
  have h2 := h (d + 1)
  unfold LeafOk at h2
  rw [hu] at h2
  obtain ⟨a2, n2, c2, xs2, he, _, _, hl2, hr2, _, hp2⟩ := h2
  simp only [Value.slice.injEq] at he
  obtain ⟨rfl, rfl, rfl⟩ := he
  obtain ⟨v2, hv2, hk⟩ := hp2 ts hf i j u' hi hj
  have e1 : xs2 = xs := by
    apply List.ext_getElem (by rw [hl2, hl])
    intro m h3 h4
    obtain ⟨b, o, e5, h5⟩ := hr m h4
    obtain ⟨b', o', e6, h6⟩ := hr2 m h3
    rw [e5] at e6
    simp only [Option.some.injEq, Addr.mk.injEq] at e6
    obtain ⟨rfl, rfl, _⟩ := e6
    rw [h5] at h6
    exact (Option.some.inj h6).symm
  subst e1
  rw [hv'] at hv2
  cases hv2
  exact hk
end
end Go.Proofs.Ytglehneaphigdaa

/- Flows as arguments: one, and lists of them. -/
namespace Go.Proofs.Ytglehneaphigdaa
open Go.ChangeShapes Go.WideShapes Go.ChangeAt Go.RowKit
set_option linter.unusedVariables false
set_option maxRecDepth 100000
theorem flat_flow : flat Try.prog 9 35 = some [33, 33, 2] := by kernel_rfl
theorem leaf_party {w : World} {v : Value} (h : ∀ d, LeafOk Try.prog w d 33 v) : ∃ n : Nat, v = .int .u8 n ∧ n ≤ 255 := by
  obtain ⟨n, rfl, hw⟩ := leaf_int Try.underlying33 h
  have := bounds_u8 hw
  exact ⟨n.toNat, by rw [Int.toNat_of_nonneg this.1], by omega⟩
theorem leaf_i64 {w : World} {v : Value} (h : ∀ d, LeafOk Try.prog w d 2 v) : ∃ n : Int, v = .int .i64 n ∧ -9223372036854775808 ≤ n ∧ n ≤ 9223372036854775807 := by
  obtain ⟨n, rfl, hw⟩ := leaf_int Try.underlying2 h
  exact ⟨n, rfl, (bounds_i64 hw).1, (bounds_i64 hw).2⟩
def FlowArg (w : World) (v : Value) : Prop := ∃ x : Flw, v = .agg (flow x.f x.t x.n) ∧ FlwOk x
theorem open_flow {H : Type} {enc : TypeId × Value → H} {W : World} {held : Bool} {v : Value} {d : DataW H} {p : List MemPlace} {r : Reach} {b0 : Nat}
    (hval : Value.okWide Try.prog W r b0 35 v) (h : DataW.Trod enc Try.prog W 0 (fun _ => true) held 35 v d p) : FlowArg W v := by
  obtain ⟨cs, rfl, hn, hp⟩ := open_flat (.inl ⟨_, Try.underlying35⟩) flat_flow hval h
  obtain ⟨x0, h0, k0⟩ := hp 0 _ rfl
  obtain ⟨x1, h1, k1⟩ := hp 1 _ rfl
  obtain ⟨x2, h2, k2⟩ := hp 2 _ rfl
  obtain ⟨a, rfl, ha⟩ := leaf_party k0
  obtain ⟨b, rfl, hb⟩ := leaf_party k1
  obtain ⟨n, rfl, hn0, hn1⟩ := leaf_i64 k2
  obtain ⟨l⟩ := cs
  refine ⟨⟨a, b, n⟩, ?_, ha, hb, hn0, hn1⟩
  match l, hn with
  | [c0, c1, c2], _ => simp at h0 h1 h2; subst_vars; rfl
/-- A list of flows that came in. -/
structure FlowsArg (w : World) (a : Option Addr) (n c : Nat) (F : List Flw) : Prop where
  len : F.length = n
  cap : n ≤ c
  max : c ≤ maxLen
  rd : Rd w a (flwL F)
  ok : ∀ x ∈ F, FlwOk x
theorem flow_cellsOf : Try.prog.cellsOf 35 = 3 := by kernel_rfl
theorem flows_of {w : World} : ∀ (n : Nat) (xs : List Value), xs.length = n * 3 → (∀ (i j : Nat) (u : TypeId), i < n → ([33, 33, 2] : List TypeId)[j]? = some u → ∃ v, xs[i * 3 + j]? = some v ∧ ∀ d, LeafOk Try.prog w d u v) → ∃ F : List Flw, F.length = n ∧ xs = flwL F ∧ ∀ x ∈ F, FlwOk x
  | 0, xs, hl, _ => ⟨[], rfl, by simpa [flwL] using hl, by simp⟩
  | n + 1, xs, hl, h => by
    rcases xs with _ | ⟨c0, _ | ⟨c1, _ | ⟨c2, ys⟩⟩⟩
    · simp at hl
    · simp at hl; omega
    · simp at hl; omega
    · obtain ⟨x0, h0, k0⟩ := h 0 0 _ (by omega) rfl
      obtain ⟨x1, h1, k1⟩ := h 0 1 _ (by omega) rfl
      obtain ⟨x2, h2, k2⟩ := h 0 2 _ (by omega) rfl
      simp at h0 h1 h2
      subst h0 h1 h2
      obtain ⟨a, rfl, ha⟩ := leaf_party k0
      obtain ⟨b, rfl, hb⟩ := leaf_party k1
      obtain ⟨m, rfl, hn0, hn1⟩ := leaf_i64 k2
      obtain ⟨F, hF, rfl, hok⟩ := flows_of n ys (by simp at hl; omega) (fun i j u hi hj => by
        obtain ⟨v, hv, hk⟩ := h (i + 1) j u (by omega) hj
        refine ⟨v, ?_, hk⟩
        rw [show (i + 1) * 3 + j = (i * 3 + j) + 3 by omega] at hv
        simpa using hv)
      exact ⟨⟨a, b, m⟩ :: F, by simp [hF], by simp [flwL, flwV], fun x hx => by
        rcases List.mem_cons.1 hx with rfl | hx
        · exact ⟨ha, hb, hn0, hn1⟩
        · exact hok x hx⟩
theorem open_flows {H : Type} {enc : TypeId × Value → H} {W : World} {held : Bool} {v : Value} {d : DataW H} {p : List MemPlace} {r : Reach} {b0 : Nat}
    (hval : Value.okWide Try.prog W r b0 22 v) (h : DataW.Trod enc Try.prog W 0 (fun _ => true) held 22 v d p) : ∃ a n c F, v = .slice a n c ∧ FlowsArg W a n c F := by
  have hk := fun d => open_sl Try.underlying22 hval h d
  obtain ⟨a, n, c, xs, rfl, hn, hc, hl, hr, _, hp⟩ := leaf_slice Try.underlying22 flat_flow hk
  rw [flow_cellsOf] at hl hp
  obtain ⟨F, hF, rfl, hok⟩ := flows_of (w := W) n xs hl hp
  exact ⟨a, n, c, F, rfl, hF, hn, hc, hr, hok⟩
end Go.Proofs.Ytglehneaphigdaa

/- PathsLeast: its walk. -/
namespace Go.Proofs.Ytglehneaphigdaa
open Go.RowKit
set_option linter.unusedSimpArgs false
set_option linter.unusedVariables false
section
variable {W w : World} {l : List Thing}
set_option maxRecDepth 100000
set_option maxHeartbeats 2000000
theorem least_many (a : Option Addr) (n c f t : Nat) (h : 300 < n) (hn : n ≤ 9223372036854775807) (H : Heap W l w) : Calls Try.prog 8 #[.slice a n c, .int .u8 (f : Int), .int .u8 (t : Int)] w fun e w' => e = .returned (.bool true) ∧ Heap W l w' := by
  have L := fun (V : World) (H : Heap W l V) => lives06_H (W := W) (l := l) (w := V) H
  go_enter Try.func8, Try.ntmps8
  go_wp2_with (first | go_skip | ((with_reducible refine (L _ H).mono ?_); clear H; rintro _ _ ⟨rfl, H⟩))
  go_ret
  exact ⟨rfl, H⟩
theorem short_zero {f t : Nat} {L : List Nat} (h : IsShort (fun _ _ => 0) f t L) : L = [] := by
  rcases h with ⟨h, _⟩ | ⟨_, _, hne, d, hd, h, _⟩
  · exact h
  · obtain ⟨q, hA, _⟩ := hd.par f h hne
    exfalso
    unfold edge capOf at hA
    split at hA <;> simp at hA
theorem short_bad {c : Caps} {f t : Nat} {L : List Nat} (h : IsShort c f t L) (hb : mayP f = false ∨ mayP t = false ∨ f = t) : L = [] := by
  rcases h with ⟨h, _⟩ | ⟨h1, h2, hne, _⟩
  · exact h
  · rcases hb with hb | hb | hb
    · rw [h1] at hb; cases hb
    · rw [h2] at hb; cases hb
    · exact absurd hb hne
theorem least_none (a : Option Addr) (n c0 f t : Nat) (F : List Flw) (h : n ≤ 300) (hl : F.length = n) (hF : ∀ x ∈ F, FlwOk x) (hf : f ≤ 255) (ht : t ≤ 255) (R : ∀ w', Heap W l w' → Rd w' a (flwL F)) (hG : newG F = none) (H : Heap W l w) : Calls Try.prog 8 #[.slice a n c0, .int .u8 (f : Int), .int .u8 (t : Int)] w fun e w' => e = .returned (.bool true) ∧ Heap W l w' := by
  have L := fun (V : World) (H : Heap W l V) => lives06_H (W := W) (l := l) (w := V) H
  have N := new_H (W := W) (l := l) (w := w) a n c0 F hl (by omega) hF R H
  rw [hG] at N
  have S := fun (V : World) (H : Heap W l V) => short_H (W := W) (l := l) (w := V) (gv := .pointer none) f t hf ht CapsOf.nil H
  clear hl hF R hG H
  go_enter Try.func8, Try.ntmps8
  go_wp2_with (first | go_skip | ((with_reducible refine N.mono ?_); clear N; rintro _ _ ⟨rfl, H⟩))
  refine (S _ H).mono ?_
  clear H S
  rintro e w2 ⟨v, La, rfl, hs, H⟩
  obtain rfl := short_zero hs
  clear hs
  obtain ⟨av, cv, rfl⟩ := OwnT.form0 (H.ok _ List.mem_cons_self)
  replace H := H.tail
  go_wp2_with (first | go_skip | ((with_reducible refine (L _ H).mono ?_); clear H; rintro _ _ ⟨rfl, H⟩))
  go_ret
  exact ⟨rfl, H⟩
theorem least_bad (a : Option Addr) (n c0 f t : Nat) (F : List Flw) (c : Caps) (h : n ≤ 300) (hl : F.length = n) (hF : ∀ x ∈ F, FlwOk x) (hf : f ≤ 255) (ht : t ≤ 255) (R : ∀ w', Heap W l w' → Rd w' a (flwL F)) (hG : newG F = some c) (hb : mayP f = false ∨ mayP t = false ∨ f = t)
    (B : (((f : Int) == (t : Int)) = true) ∨ (((f : Int) == (t : Int)) = false ∧ f < 1) ∨ (((f : Int) == (t : Int)) = false ∧ 1 ≤ f ∧ 16 < f) ∨ (((f : Int) == (t : Int)) = false ∧ 1 ≤ f ∧ f ≤ 16 ∧ t < 1) ∨ (((f : Int) == (t : Int)) = false ∧ 1 ≤ f ∧ f ≤ 16 ∧ 1 ≤ t ∧ 16 < t)) (H : Heap W l w) :
    Calls Try.prog 8 #[.slice a n c0, .int .u8 (f : Int), .int .u8 (t : Int)] w fun e w' => e = .returned (.bool true) ∧ Heap W l w' := by
  have L := fun (V : World) (H : Heap W l V) => lives06_H (W := W) (l := l) (w := V) H
  have N := new_H (W := W) (l := l) (w := w) a n c0 F hl (by omega) hF R H
  rw [hG] at N
  have S := fun (p : Nat) (V : World) (H : Heap W (Gr p c :: l) V) => short_H (W := W) (l := Gr p c :: l) (w := V) (gv := .pointer (some ⟨p, 0, none⟩)) f t hf ht (CapsOf.gr List.mem_cons_self) H
  clear hl hF R hG H
  have HB := Lib.hid hb
  clear hb
  rcases B with B | ⟨B, b1⟩ | ⟨B, b1, b2⟩ | ⟨B, b1, b2, b3⟩ | ⟨B, b1, b2, b3, b4⟩
  all_goals
    go_enter Try.func8, Try.ntmps8
    go_wp2_with (first | go_skip | ((with_reducible refine N.mono ?_); clear N; rintro _ _ ⟨p, rfl, H⟩))
    refine (S _ _ H).mono ?_
    clear H S
    rintro e w2 ⟨v, La, rfl, hs, H⟩
    obtain rfl := short_bad hs HB.out
    clear hs
    obtain ⟨av, cv, rfl⟩ := OwnT.form0 (H.ok _ List.mem_cons_self)
    replace H := H.tail.tail
    go_wp2_with (first | go_skip | ((with_reducible refine (L _ H).mono ?_); clear H; rintro _ _ ⟨rfl, H⟩))
    go_ret
    exact ⟨rfl, H⟩
end
end Go.Proofs.Ytglehneaphigdaa

/- flows.Route: where nothing is wanted; of no graph; flows.Most. -/
namespace Go.Proofs.Ytglehneaphigdaa
open Go.RowKit
attribute [local go_sem] Oper.semAt_some
set_option linter.unusedSimpArgs false
set_option linter.unusedVariables false
section
variable {W w : World} {l : List Thing} {p : Nat}
set_option maxRecDepth 100000
set_option maxHeartbeats 4000000
theorem route_no (gv : Option Addr) (f t : Nat) (want : Int) (hw : want ≤ 0) (H : Heap W l w) :
    Calls Try.prog 29 #[.pointer gv, .int .u8 (f : Int), .int .u8 (t : Int), .int .i64 want] w fun e w' => e = .returned (.tuple #[.slice none 0 0, .int .i64 0]) ∧ Heap W l w' := by
  have g1 : decide (want ≤ 0) = true := by simp; omega
  refine (callsIn_wide (n := 3)).1 (callsIn_of_wp_marks Try.func29 rfl trivial ?_)
  refine (wpIn_wide (n := 3)).2 ?_
  simp only [Try.ntmps29, List.size_toArray, List.length_cons, List.length_nil, Nat.reduceAdd, Nat.reduceSub, Array.replicate_succ, Array.replicate_zero, List.push_toArray, List.append_toArray, List.nil_append, List.cons_append]
  go_wp2_with (first
    | go_skip
    | ((with_reducible show wpList _ _ _ (_ :: _) _ _); (with_reducible apply wpl_boxPH); (· rfl); (· rfl); (· exact H); (clear H; intro bg _ H); (simp only [Act.put, List.setIfInBounds_toArray, List.set_cons_zero, List.set_cons_succ]))
    | ((with_reducible show wpList _ _ _ (_ :: _) _ _); (with_reducible apply wpl_boxIH); (· rfl); (· rfl); (· exact H); (clear H; intro bw _ H); (simp only [Act.put, List.setIfInBounds_toArray, List.set_cons_zero, List.set_cons_succ]))
    | ((with_reducible show wpList _ _ _ (_ :: _) _ _); (with_reducible apply wpl_allocS); (· rfl); (· exact H); (clear H; intro bp _ H); (simp only [Act.put, List.setIfInBounds_toArray, List.set_cons_zero, List.set_cons_succ]))
    | ((with_reducible show wpList _ _ _ (_ :: _) _ _); (with_reducible apply wpl_allocI); (· rfl); (· exact H); (clear H; intro bo _ H); (simp only [Act.put, List.setIfInBounds_toArray, List.set_cons_zero, List.set_cons_succ]))
    | ((with_reducible show wpList _ _ _ (_ :: _) _ _); (with_reducible apply wpl_loadCH); (· first | exact cell_i64 | exact cell_pg7); (· rfl); (· rfl); (· exact H); (· (repeat (first | (with_reducible exact List.mem_cons_self) | with_reducible apply List.mem_cons_of_mem))); (· exact one_g _); (simp only [Act.put, List.setIfInBounds_toArray, List.set_cons_zero, List.set_cons_succ]))
    | ((with_reducible show wpList _ _ _ (_ :: _) _ _); (with_reducible apply wpl_storeSH); (· exact cell_flows); (· rfl); (· rfl); (· rfl); (· exact H); (· (repeat (first | (with_reducible exact List.mem_cons_self) | with_reducible apply List.mem_cons_of_mem))); (· exact Nat.le_refl 1); (· rfl); (· (repeat (first | (with_reducible exact Repl.here) | with_reducible apply Repl.there))); (clear H; intro _ H); (simp only [Act.put, List.setIfInBounds_toArray, List.set_cons_zero, List.set_cons_succ]))
    | ((with_reducible show wpList _ _ _ (_ :: _) _ _); (with_reducible apply wpl_storeIH); (· exact cell_i64); (· rfl); (· rfl); (· rfl); (· exact H); (· (repeat (first | (with_reducible exact List.mem_cons_self) | with_reducible apply List.mem_cons_of_mem))); (· exact Nat.le_refl 1); (· rfl); (· (repeat (first | (with_reducible exact Repl.here) | with_reducible apply Repl.there))); (clear H; intro _ H); (simp only [Act.put, List.setIfInBounds_toArray, List.set_cons_zero, List.set_cons_succ])))
  refine ⟨_, results_cc cell_flows cell_i64 rfl rfl rfl H (v1 := .slice none 0 0) (v2 := .int .i64 0) (List.mem_cons_of_mem _ List.mem_cons_self) List.mem_cons_self, rfl, ?_⟩
  exact H.tail.tail.tail.tail
theorem ways_nil (f t : Nat) (H : Heap W l w) : Calls Try.prog 52 #[.pointer none, .int .u8 (f : Int), .int .u8 (t : Int)] w fun e w' => ∃ b1 b2 b3, e = .returned (wayF b1 b2 b3) ∧ Heap W (Cel b3 #[.int .u8 (t : Int)] 33 :: Cel b2 #[.int .u8 (f : Int)] 33 :: Cel b1 #[.pointer none] 25 :: l) w' := by
  go_enter Try.func52, Try.ntmps52
  go_wp2_with (first
    | go_skip
    | ((with_reducible show wpList _ _ _ (_ :: _) _ _); (with_reducible apply wpl_boxPH); (· rfl); (· rfl); (· exact H); (clear H; intro b1 _ H); (simp only [Act.put, List.setIfInBounds_toArray, List.set_cons_zero, List.set_cons_succ]))
    | ((with_reducible show wpList _ _ _ (_ :: _) _ _); (with_reducible apply wpl_boxIH); (· rfl); (· rfl); (· exact H); (clear H; intro b2 _ H); (simp only [Act.put, List.setIfInBounds_toArray, List.set_cons_zero, List.set_cons_succ])))
  go_ret
  exact ⟨b1, _, _, rfl, H⟩
theorem route_nil (f t : Nat) (want : Int) (hf : f ≤ 255) (ht : t ≤ 255) (hw : 0 < want) (h1 : want ≤ 9223372036854775807) (H : Heap W l w) :
    Calls Try.prog 29 #[.pointer none, .int .u8 (f : Int), .int .u8 (t : Int), .int .i64 want] w fun e w' => e = .returned (.tuple #[.slice none 0 0, .int .i64 0]) ∧ Heap W l w' := by
  have g1 : decide (want ≤ 0) = false := by simp; omega
  have hcn := copy_nil
  refine (callsIn_wide (n := 3)).1 (callsIn_of_wp_marks Try.func29 rfl trivial ?_)
  refine (wpIn_wide (n := 3)).2 ?_
  simp only [Try.ntmps29, List.size_toArray, List.length_cons, List.length_nil, Nat.reduceAdd, Nat.reduceSub, Array.replicate_succ, Array.replicate_zero, List.push_toArray, List.append_toArray, List.nil_append, List.cons_append]
  go_wp2_with (first
    | go_skip
    | ((with_reducible refine Ans.callH (by assumption) H ?_); clear H; intro _ H)
    | ((with_reducible show wpList _ _ _ (_ :: _) _ _); (with_reducible apply wpl_boxPH); (· rfl); (· rfl); (· exact H); (clear H; intro bg _ H); (simp only [Act.put, List.setIfInBounds_toArray, List.set_cons_zero, List.set_cons_succ]))
    | ((with_reducible show wpList _ _ _ (_ :: _) _ _); (with_reducible apply wpl_boxIH); (· rfl); (· rfl); (· exact H); (clear H; intro bw _ H); (simp only [Act.put, List.setIfInBounds_toArray, List.set_cons_zero, List.set_cons_succ]))
    | ((with_reducible show wpList _ _ _ (_ :: _) _ _); (with_reducible apply wpl_allocS); (· rfl); (· exact H); (clear H; intro bp _ H); (simp only [Act.put, List.setIfInBounds_toArray, List.set_cons_zero, List.set_cons_succ]))
    | ((with_reducible show wpList _ _ _ (_ :: _) _ _); (with_reducible apply wpl_allocI); (· rfl); (· exact H); (clear H; intro bo _ H); (simp only [Act.put, List.setIfInBounds_toArray, List.set_cons_zero, List.set_cons_succ]))
    | ((with_reducible show wpList _ _ _ (_ :: _) _ _); (with_reducible apply wpl_loadCH); (· first | exact cell_i64 | exact cell_pg7); (· rfl); (· rfl); (· exact H); (· (repeat (first | (with_reducible exact List.mem_cons_self) | with_reducible apply List.mem_cons_of_mem))); (· exact one_g _); (simp only [Act.put, List.setIfInBounds_toArray, List.set_cons_zero, List.set_cons_succ]))
    | ((with_reducible show wpList _ _ _ (_ :: _) _ _); (with_reducible apply wpl_storePH); (· exact cell_pg7); (· rfl); (· rfl); (· rfl); (· exact H); (· (repeat (first | (with_reducible exact List.mem_cons_self) | with_reducible apply List.mem_cons_of_mem))); (· exact Nat.le_refl 1); (· rfl); (· (repeat (first | (with_reducible exact Repl.here) | with_reducible apply Repl.there))); (clear H; intro _ H); (simp only [Act.put, List.setIfInBounds_toArray, List.set_cons_zero, List.set_cons_succ])))
  clear hcn
  refine (ways_nil f t H).mono ?_
  clear H
  rintro e w2 ⟨b1, b2, b3, rfl, H⟩
  go_wp2_with (go_skip)
  refine rangeP (fun D w' => Heap W (ObjT D (.deferred (some [])) :: Cel b3 #[.int .u8 (t : Int)] 33 :: Cel b2 #[.int .u8 (f : Int)] 33 :: Cel b1 #[.pointer none] 25 :: Cel bo #[.int .i64 0] 2 :: Cel bp #[.slice none 0 0] 22 :: Cel bw #[.int .i64 want] 2 :: Cel bg #[.pointer none] 25 :: l) w') (gf := 68) (lb := #[.pointer (some ⟨b1, 0, none⟩), .pointer (some ⟨b2, 0, none⟩), .pointer (some ⟨b3, 0, none⟩)]) rfl Try.call68 H ?tail ?loop
  case tail =>
    clear H
    intro D w3 H
    have CL := clipF_nil
    go_wp2_with (go_skip)
    refine wp_region_F [3, 4] [3, 4] [0, 1, 2, 3, 4] (Keeps [Cel bo #[.int .i64 0] 2]) (Keeps [Cel bp #[.slice none 0 0] 22]) H (by kernel_rfl) (by kernel_rfl) ?_
    (apply wpF_early; (· rfl); (· rfl); (· kernel_rfl); (· rfl); (· exact Nat.le_of_ble_eq_true rfl); (· exact keeps1 (by (repeat (first | (with_reducible exact List.mem_cons_self) | with_reducible apply List.mem_cons_of_mem)))); (· intro l0 hs0 w0 H0; (first | ((with_reducible apply wpQ_loadCH); (· exact cell_flows); (· rfl); (· rfl); (· exact hs0 _ List.mem_cons_self); (· exact one_g _); (simp only [Act.put, List.setIfInBounds_toArray, List.set_cons_zero, List.set_cons_succ]))); (refine wpQuiet_nil ?_); (simp only [Array.getD_eq_getD_getElem?, List.getElem?_toArray, List.getElem?_cons_succ, List.getElem?_cons_zero, Option.getD_some]; rfl)); (simp only [Act.put, List.setIfInBounds_toArray, List.set_cons_zero, List.set_cons_succ]))
    (apply wpF_step; (· rfl); (· rfl); (· rfl); (· exact Nat.le_of_ble_eq_true rfl); (· exact keeps1 (by (repeat (first | (with_reducible exact List.mem_cons_self) | with_reducible apply List.mem_cons_of_mem)))); (· intro l0 hs0 w0 H0; (first | go_big_quiet_skip | fail | go_big_quiet_step (exact CL.quietH)); (refine wpQuiet_nil ?_); (simp only [Array.getD_eq_getD_getElem?, List.getElem?_toArray, List.getElem?_cons_succ, List.getElem?_cons_zero, Option.getD_some]; rfl)); (simp only [Act.put, List.setIfInBounds_toArray, List.set_cons_zero, List.set_cons_succ]))
    (apply wpF_step; (· rfl); (· rfl); (· rfl); (· exact Nat.le_of_ble_eq_true rfl); (· exact keeps1 (by (repeat (first | (with_reducible exact List.mem_cons_self) | with_reducible apply List.mem_cons_of_mem)))); (· intro l0 hs0 w0 H0; (first | go_big_quiet_skip | ((with_reducible apply wpQ_loadCH); (· exact cell_i64); (· rfl); (· rfl); (· exact hs0 _ List.mem_cons_self); (· exact one_g _); (simp only [Act.put, List.setIfInBounds_toArray, List.set_cons_zero, List.set_cons_succ])) | go_big_quiet_step (fail)); (refine wpQuiet_nil ?_); (simp only [Array.getD_eq_getD_getElem?, List.getElem?_toArray, List.getElem?_cons_succ, List.getElem?_cons_zero, Option.getD_some]; rfl)); (simp only [Act.put, List.setIfInBounds_toArray, List.set_cons_zero, List.set_cons_succ]))
    refine wpF_storeS (v := .slice none 0 0) cell_flows rfl rfl rfl rfl rfl ⟨rfl, rfl⟩ (by (repeat (first | (with_reducible exact List.mem_cons_self) | with_reducible apply List.mem_cons_of_mem))) (by (repeat (first | (with_reducible exact Repl.here) | with_reducible apply Repl.there))) rfl (keeps1 (by (repeat (first | (with_reducible exact List.mem_cons_self) | with_reducible apply List.mem_cons_of_mem)))) ?_
    (simp only [Act.put, List.setIfInBounds_toArray, List.set_cons_zero, List.set_cons_succ])
    refine wpF_storeS (v := .int .i64 0) cell_i64 rfl rfl rfl rfl rfl ⟨rfl, rfl⟩ (by (repeat (first | (with_reducible exact List.mem_cons_self) | with_reducible apply List.mem_cons_of_mem))) (by (repeat (first | (with_reducible exact Repl.here) | with_reducible apply Repl.there))) rfl (keeps1 (by (repeat (first | (with_reducible exact List.mem_cons_self) | with_reducible apply List.mem_cons_of_mem)))) ?_
    (simp only [Act.put, List.setIfInBounds_toArray, List.set_cons_zero, List.set_cons_succ])
    (refine wpF_nil ?_; clear H; intro _ H)
    go_wp2_with (go_skip)
    have hK : _ = some (Obj.deferred (some [])) := H.ok (ObjT D (.deferred (some []))) (by (repeat (first | (with_reducible exact List.mem_cons_self) | with_reducible apply List.mem_cons_of_mem)))
    have H5 := (H.pull .here).putO (o' := .deferred none)
    refine ⟨by simp, .inl ⟨_, _, rfl, run_takeDeferred hK, ?_⟩⟩
    refine ⟨_, results_cc cell_flows cell_i64 rfl rfl rfl H5 (v1 := .slice none 0 0) (v2 := .int .i64 0) (by (repeat (first | (with_reducible exact List.mem_cons_self) | with_reducible apply List.mem_cons_of_mem))) (by (repeat (first | (with_reducible exact List.mem_cons_self) | with_reducible apply List.mem_cons_of_mem))), rfl, ?_⟩
    exact H5.tail.tail.tail.tail.tail.tail.tail.tail
  case loop =>
  intro fn D w3 r0 hr0 H
  have HR0 := Lib.hid hr0
  clear hr0
  refine callsIn_of_wp Try.func68 rfl trivial ?_ rfl
  simp only [Try.ntmps68, List.size_toArray, List.length_cons, List.length_nil, Nat.reduceAdd, Nat.reduceSub, Array.replicate_succ, Array.replicate_zero, List.push_toArray, List.append_toArray, List.nil_append, List.cons_append]
  gi_wp2
  refine wpIn_loop_once ?_
  refine wpIn_block ?_
  refine wpIn_seq ?_
  refine (wpIn_wide (n := 2)).2 ?_
  go_wp2_with (first
    | go_skip
    | ((with_reducible show wpList _ _ _ (_ :: _) _ _); (with_reducible apply wpl_loadCH); (· first | exact cell_party | exact cell_pg7); (· rfl); (· rfl); (· exact H); (· (repeat (first | (with_reducible exact List.mem_cons_self) | with_reducible apply List.mem_cons_of_mem))); (· exact one_g _); (simp only [Act.put, List.setIfInBounds_toArray, List.set_cons_zero, List.set_cons_succ])))
  refine (short_H (gv := .pointer none) f t hf ht CapsOf.nil H).mono ?_
  clear H
  rintro e w4 ⟨v2, L, rfl, hs, H⟩
  obtain rfl := short_zero hs
  obtain ⟨a2, c2, rfl⟩ := OwnT.form0 (H.ok _ List.mem_cons_self)
  clear hs
  go_wp2_with (go_skip)
  gi_wp2
  refine ⟨fun _ h => (by cases h), ?_⟩
  gi_wp2
  refine bodyPost_ret (results_none rfl _ _ _) rfl ?_
  exact ⟨_, r0, _, rfl, (by rw [HR0.out]; exact fun h => by cases h), .inl (by rw [HR0.out]), H.tail, fun w' H' => H'⟩
theorem most_H (c0 : Caps) (f t : Nat) (hf : f ≤ 255) (ht : t ≤ 255) (hc : PlayC c0) (m1 : Gr p c0 ∈ l) (H : Heap W l w) :
    Calls Try.prog 30 #[.pointer (some ⟨p, 0, none⟩), .int .u8 (f : Int), .int .u8 (t : Int)] w fun e w' => ∃ P got, e = .returned (.int .i64 got) ∧ RouteOut f t c0 9223372036854775807 P got ∧ Heap W l w' := by
  have C := route_H (p := p) c0 f t 9223372036854775807 hf ht (by omega) (by omega) hc m1 H
  clear H m1 hc
  go_enter Try.func30, Try.ntmps30
  go_wp2_with (go_skip)
  refine C.mono ?_
  clear C
  rintro e w1 ⟨v, P, got, rfl, hr, H⟩
  have HR := Lib.hid hr
  clear hr
  go_wp2_with (go_skip)
  go_ret
  exact ⟨P, got, rfl, HR.out, H.tail⟩
theorem most_nil (f t : Nat) (hf : f ≤ 255) (ht : t ≤ 255) (H : Heap W l w) :
    Calls Try.prog 30 #[.pointer none, .int .u8 (f : Int), .int .u8 (t : Int)] w fun e w' => e = .returned (.int .i64 0) ∧ Heap W l w' := by
  have C := route_nil f t 9223372036854775807 hf ht (by omega) (by omega) H
  clear H
  go_enter Try.func30, Try.ntmps30
  go_wp2_with (go_skip)
  refine C.mono ?_
  clear C
  rintro e w1 ⟨rfl, H⟩
  go_wp2_with (go_skip)
  go_ret
  exact ⟨rfl, H⟩
end
end Go.Proofs.Ytglehneaphigdaa

/- Flows: what goes over a cut (plain). -/
namespace Go.Proofs.Ytglehneaphigdaa
open Go.RowKit
set_option linter.unusedSimpArgs false
set_option linter.unusedVariables false
def sumN : Nat → (Nat → Int) → Int
  | 0, _ => 0
  | k + 1, g => sumN k g + g k
theorem sumN_congr {g h : Nat → Int} : ∀ k, (∀ i, i < k → g i = h i) → sumN k g = sumN k h
  | 0, _ => rfl
  | k + 1, e => by rw [sumN, sumN, sumN_congr k (fun i hi => e i (by omega)), e k (by omega)]
theorem sumN_nonneg {g : Nat → Int} : ∀ k, (∀ i, i < k → 0 ≤ g i) → 0 ≤ sumN k g
  | 0, _ => Int.le_refl _
  | k + 1, e => by
    rw [sumN]
    have := sumN_nonneg k (fun i hi => e i (by omega))
    have := e k (by omega)
    omega
theorem sumN_zero {g : Nat → Int} : ∀ k, (∀ i, i < k → g i = 0) → sumN k g = 0
  | 0, _ => rfl
  | k + 1, e => by rw [sumN, sumN_zero k (fun i hi => e i (by omega)), e k (by omega)]; rfl
theorem sumN_upd {g : Nat → Int} {a : Nat} {v : Int} : ∀ k, a < k → sumN k (fun i => if i = a then v else g i) = sumN k g - g a + v
  | 0, h => by omega
  | k + 1, h => by
    rw [sumN, sumN]
    by_cases e : k = a
    · subst e
      rw [if_pos rfl, sumN_congr k (h := g) (fun i hi => by rw [if_neg (by omega)])]
      omega
    · rw [if_neg e, sumN_upd k (by omega)]
      omega
/-- What may go out of these parties. -/
def cutS (c : Caps) (S : Nat → Bool) : Int := sumN 17 fun a => sumN 17 fun b => if S a && !S b then c a b else 0
theorem cutS_upd {c : Caps} {S : Nat → Bool} {a b : Nat} {v : Int} (ha : a < 17) (hb : b < 17) : cutS (upd2 c a b v) S = cutS c S + (if S a && !S b then v - c a b else 0) := by
  unfold cutS
  have e1 : ∀ x, sumN 17 (fun y => if S x && !S y then upd2 c a b v x y else 0) = if x = a then sumN 17 (fun y => if y = b then (if S a && !S b then v else 0) else (if S a && !S y then c a y else 0)) else sumN 17 (fun y => if S x && !S y then c x y else 0) := by
    intro x
    by_cases e : x = a
    · subst e
      rw [if_pos rfl]
      refine sumN_congr _ fun y _ => ?_
      by_cases e2 : y = b
      · subst e2
        rw [if_pos rfl, show upd2 c x y v x y = v by unfold upd2; rw [if_pos ⟨rfl, rfl⟩]]
      · rw [if_neg e2, show upd2 c x b v x y = c x y by unfold upd2; rw [if_neg (fun h => e2 h.2)]]
    · rw [if_neg e]
      refine sumN_congr _ fun y _ => ?_
      rw [show upd2 c a b v x y = c x y by unfold upd2; rw [if_neg (fun h => e h.1)]]
  rw [sumN_congr 17 (fun i _ => e1 i), sumN_upd 17 ha, sumN_upd 17 hb]
  split <;> omega
theorem cutS_push {c : Caps} {S : Nat → Bool} {a b : Nat} {m : Int} (ha : a < 17) (hb : b < 17) (h1 : 1 ≤ m) (h2 : m ≤ c a b) (hne : a ≠ b) : cutS (pushT c a b m) S = cutS c S - (if S a then m else 0) + (if S b then m else 0) := by
  rw [pushT_ok h1 h2 hne, cutS_upd hb ha, cutS_upd ha hb]
  have e : upd2 c a b (c a b - m) b a = c b a := by unfold upd2; rw [if_neg (fun h => hne h.1.symm)]
  rw [e]
  cases S a <;> cases S b <;> simp <;> omega
theorem cutS_way {d : Nat → Nat} {S : Nat → Bool} {m : Int} (h1 : 1 ≤ m) : ∀ (L : List Nat) (a z : Nat) (c : Caps), Drop1 d (a :: L) → (∀ x y, prB (a :: L) x y = true → m ≤ c x y) → (∀ x ∈ a :: L, x < 17) → (a :: L).getLast? = some z → cutS (psW c (a :: L) m) S = cutS c S - (if S a then m else 0) + (if S z then m else 0)
  | [], a, z, c, _, _, _, hz => by
    simp at hz
    subst hz
    rw [psW_end]
    omega
  | b :: L, a, z, c, hd, hf, hr, hz => by
    have ht := hd.tail
    have hab := hf a b (prB_cons.2 (.inl ⟨rfl, rfl⟩))
    have hne : a ≠ b := fun e => by rw [e] at ht; omega
    have ha := hr a List.mem_cons_self
    have hb := hr b (List.mem_cons_of_mem _ List.mem_cons_self)
    rw [psW, cutS_way h1 L b z _ ht.2 (fun u v hp => by
      have h3 := Drop1.near ht.2 hp
      have h4 := ht.2 u v hp
      rw [pushT_at h1 hab hne, if_neg (fun e => by rw [← e.1] at h3; omega), if_neg (fun e => by rw [← e.1, ← e.2] at h4; omega)]
      have := hf u v (prB_cons.2 (.inr hp))
      omega) (fun x hx => hr x (List.mem_cons_of_mem _ hx)) (by simpa using hz), cutS_push ha hb h1 hab hne]
    omega
/-- So much less goes over a cut, behind the rounds, as was pushed. -/
theorem Tr.cut {f t : Nat} {c0 : Caps} {n0 : Int} (h0 : PlayC c0) {S : Nat → Bool} (hf : S f = true) (ht : S t = false) {k : Nat} {c : Caps} {n : Int} {P : List Flw} (h : Tr f t c0 n0 k c n P) : cutS c S = cutS c0 S - (n0 - n) := by
  induction h with
  | nil => omega
  | @snoc k c n P L h h1 h2 h3 ih =>
    have hp := h.play h0
    obtain ⟨d, hw⟩ := h2.way hp.good h3
    have hpos := mnW_pos c L n h1 hw.cap
    obtain ⟨M, rfl⟩ := hw.head
    have hlast : (f :: M).getLast? = some t := by rw [List.getLast?_eq_getElem?]; exact hw.last
    rw [cutS_way (show 1 ≤ mnW c (f :: M) n by omega) M f t c hw.drop (fun x y hp => mnW_fit c _ n hp) (fun x hx => by have := hw.rng x hx; omega) hlast, ih, if_pos hf, ht]
    simp
    omega
theorem GoodC.cut0 {c : Caps} (h : GoodC c) (S : Nat → Bool) : 0 ≤ cutS c S := sumN_nonneg _ fun a _ => sumN_nonneg _ fun b _ => by
  split
  · exact h.ge a b
  · exact Int.le_refl _
theorem sumN_le {g : Nat → Int} {B : Int} : ∀ k, (∀ i, i < k → g i ≤ B) → sumN k g ≤ k * B
  | 0, _ => by simp [sumN]
  | k + 1, e => by
    rw [sumN]
    have h1 := sumN_le k (fun i hi => e i (by omega))
    have h2 := e k (by omega)
    rw [show ((k + 1 : Nat) : Int) * B = k * B + B by rw [Int.natCast_add, Int.add_mul]; simp]
    omega
theorem PlayC.cutB {c : Caps} (h : PlayC c) (S : Nat → Bool) : cutS c S ≤ 1271035441709056 := by
  have := sumN_le (g := fun a => sumN 17 fun b => if S a && !S b then c a b else 0) (B := ((17 : Nat) : Int) * 4398046511104) 17 fun a _ => sumN_le 17 fun b _ => by
    have h1 := h.sum a b
    have h2 := h.good.ge b a
    split <;> omega
  unfold cutS
  omega
/-- No more goes than over a cut. -/
theorem Tr.weak {f t : Nat} {c0 : Caps} {n0 : Int} (h0 : PlayC c0) {S : Nat → Bool} (hf : S f = true) (ht : S t = false) {k : Nat} {c : Caps} {n : Int} {P : List Flw} (h : Tr f t c0 n0 k c n P) : n0 - n ≤ cutS c0 S := by
  have := h.cut h0 hf ht
  have := (h.play h0).good.cut0 S
  omega
/-- Where no way is left the parties that do not reach the end are a cut with nothing left. -/
theorem IsShort.cut {c : Caps} {f t : Nat} (hg : GoodC c) (hf : mayP f = true) (ht : mayP t = true) (hne : f ≠ t) (h : IsShort c f t []) : ∃ S : Nat → Bool, S f = true ∧ S t = false ∧ cutS c S = 0 := by
  rcases h with ⟨_, h | h | h | ⟨d, hd, hd17⟩⟩ | ⟨_, _, _, d, hd, hlt, hw⟩
  · rw [hf] at h; cases h
  · rw [ht] at h; cases h
  · exact absurd h hne
  · refine ⟨fun p => decide (d p = 17), by simp [hd17], by simp [hd.top], ?_⟩
    refine sumN_zero _ fun a _ => sumN_zero _ fun b _ => ?_
    split
    · rename_i hs
      simp only [Bool.and_eq_true, decide_eq_true_eq, Bool.not_eq_true', decide_eq_false_iff_not] at hs
      have hge := hg.ge a b
      by_cases hp : 0 < c a b
      · have h1 := hd.step a b (by unfold edge; rw [hg.capOf]; simpa using hp)
        have h2 := hd.le b
        have h3 := hd.ins b (by omega)
        omega
      · omega
    · rfl
  · have := hw.head
    simp at this
/-- What goes: as much as is wanted, or as much as may at most. -/
theorem RouteOut.max {f t : Nat} {c0 : Caps} {P Q : List Flw} {n m got most : Int} (h0 : PlayC c0) (hf : mayP f = true) (ht : mayP t = true) (hne : f ≠ t) (hn : 0 ≤ n) (h : RouteOut f t c0 n P got) (g : RouteOut f t c0 m Q most) (hm : 4611686018427387904 ≤ m) : got = min n most := by
  obtain ⟨k, c, r, hT, hF, rfl⟩ := h
  obtain ⟨k2, c2, r2, hT2, hF2, rfl⟩ := g
  have l1 := hT.le h0 hn
  have l2 := hT2.le h0 (by omega)
  have hb := h0.cutB (fun p => decide (p = f))
  have w2 := hT2.weak h0 (S := fun p => decide (p = f)) (by simp) (by simp; exact fun e => hne e.symm)
  have hs2 : IsShort c2 f t [] := by
    rcases hF2 with h | h
    · omega
    · exact h
  obtain ⟨S, s1, s2, s3⟩ := hs2.cut (hT2.play h0).good hf ht hne
  have c2' := hT2.cut h0 s1 s2
  have w1 := hT.weak h0 s1 s2
  rcases hF with h | h
  · omega
  · obtain ⟨S', t1, t2, t3⟩ := h.cut (hT.play h0).good hf ht hne
    have c1' := hT.cut h0 t1 t2
    have w3 := hT2.weak h0 t1 t2
    omega
end Go.Proofs.Ytglehneaphigdaa

/- flows.Route and Most of whatever want; what an Ask is in memory. -/
namespace Go.Proofs.Ytglehneaphigdaa
open Go.RowKit
set_option linter.unusedSimpArgs false
set_option linter.unusedVariables false
theorem RouteOut.no {f t : Nat} {c : Caps} {want : Int} (h : want ≤ 0) : RouteOut f t c want [] 0 := ⟨0, c, want, .nil, .inl h, by omega⟩
theorem RouteOut.stuck {f t : Nat} {c : Caps} {want : Int} (h : mayP f = false ∨ mayP t = false ∨ f = t) : RouteOut f t c want [] 0 :=
  ⟨0, c, want, .nil, .inr (.inl ⟨rfl, by rcases h with h | h | h; exact .inl h; exact .inr (.inl h); exact .inr (.inr (.inl h))⟩), by omega⟩
theorem RouteOut.eq {f t : Nat} {c : Caps} {n got got' : Int} {P P' : List Flw} (h : RouteOut f t c n P got) (g : RouteOut f t c n P' got') : P = P' ∧ got = got' := by
  obtain ⟨k, c1, r, h1, h2, rfl⟩ := h
  obtain ⟨k', c1', r', g1, g2, rfl⟩ := g
  obtain ⟨_, rfl, rfl⟩ := h1.fin h2 g1 g2
  exact ⟨rfl, rfl⟩
/-- The most that goes does not hang on which great number is asked for. -/
theorem RouteOut.mosts {f t : Nat} {c : Caps} {P Q : List Flw} {a b : Int} (h0 : PlayC c) (h : RouteOut f t c 4611686018427387904 P a) (g : RouteOut f t c 9223372036854775807 Q b) : a = b := by
  by_cases hs : mayP f = false ∨ mayP t = false ∨ f = t
  · rw [(h.eq (RouteOut.stuck hs)).2, (g.eq (RouteOut.stuck hs)).2]
  · have hf : mayP f = true := by
      cases e : mayP f
      · exact absurd (.inl e) hs
      · rfl
    have ht : mayP t = true := by
      cases e : mayP t
      · exact absurd (.inr (.inl e)) hs
      · rfl
    have hne : f ≠ t := fun e => hs (.inr (.inr e))
    have h1 := RouteOut.max h0 hf ht hne (by omega) h g (by omega)
    obtain ⟨k2, c2, r2, hT2, hF2, rfl⟩ := g
    have w2 := hT2.weak h0 (S := fun p => decide (p = f)) (by simp) (by simp; exact fun e => hne e.symm)
    have hb := h0.cutB (fun p => decide (p = f))
    have l2 := hT2.le h0 (by omega)
    omega
theorem Tr.lenP {f t : Nat} {c0 c : Caps} {n0 n : Int} {k : Nat} {P : List Flw} (h0 : PlayC c0) (h : Tr f t c0 n0 k c n P) : P.length ≤ 86240 := by
  have := h.pot h0
  omega
theorem RouteOut.len {f t : Nat} {c : Caps} {n got : Int} {P : List Flw} (h0 : PlayC c) (h : RouteOut f t c n P got) : P.length ≤ 86240 := by
  obtain ⟨k, c1, r, h1, _⟩ := h
  exact h1.lenP h0
/-- An Ask in memory. -/
theorem row_ask : RowTy 49 3 (flow 0 0 0) := ⟨⟨_, Try.underlying49, rfl⟩, by kernel_rfl, by kernel_rfl⟩
section
variable {W w : World} {l : List Thing} {p : Nat}
theorem routeA_H (c0 : Caps) (f t : Nat) (want : Int) (hf : f ≤ 255) (ht : t ≤ 255) (h1 : want ≤ 9223372036854775807) (hc : PlayC c0) (m1 : Gr p c0 ∈ l) (H : Heap W l w) :
    Calls Try.prog 29 #[.pointer (some ⟨p, 0, none⟩), .int .u8 (f : Int), .int .u8 (t : Int), .int .i64 want] w fun e w' => ∃ v P got, e = .returned (.tuple #[v, .int .i64 got]) ∧ RouteOut f t c0 want P got ∧ Heap W (OwnT 35 3 v P.length (flwL P) :: l) w' := by
  by_cases hw : 0 < want
  · exact route_H c0 f t want hf ht hw h1 hc m1 H
  · refine (route_no (some ⟨p, 0, none⟩) f t want (by omega) H).mono ?_
    rintro e w' ⟨rfl, H⟩
    exact ⟨_, [], 0, rfl, .no (by omega), (H.nilRow 35 3).slide⟩
theorem routeN_H (f t : Nat) (want : Int) (hf : f ≤ 255) (ht : t ≤ 255) (h1 : want ≤ 9223372036854775807) (H : Heap W l w) :
    Calls Try.prog 29 #[.pointer none, .int .u8 (f : Int), .int .u8 (t : Int), .int .i64 want] w fun e w' => e = .returned (.tuple #[.slice none 0 0, .int .i64 0]) ∧ Heap W l w' := by
  by_cases hw : 0 < want
  · exact route_nil f t want hf ht hw h1 H
  · exact route_no none f t want (by omega) H
end
end Go.Proofs.Ytglehneaphigdaa

/- Flows: the pushes of a route, done one behind the other (plain). -/
namespace Go.Proofs.Ytglehneaphigdaa
open Go.RowKit
set_option linter.unusedSimpArgs false
set_option linter.unusedVariables false
def pushL (c : Caps) : List Flw → Caps
  | [] => c
  | x :: P => pushL (pushT c x.f x.t x.n) P
/-- Each push may be done. -/
def Fits (c : Caps) : List Flw → Prop
  | [] => True
  | x :: P => (1 ≤ x.n ∧ x.n ≤ c x.f x.t ∧ x.f ≤ 16 ∧ x.t ≤ 16) ∧ Fits (pushT c x.f x.t x.n) P
theorem pushL_append : ∀ (P Q : List Flw) (c : Caps), pushL c (P ++ Q) = pushL (pushL c P) Q
  | [], _, _ => rfl
  | x :: P, Q, c => by rw [List.cons_append, pushL, pushL_append P Q, pushL]
theorem Fits.append : ∀ {P Q : List Flw} {c : Caps}, Fits c P → Fits (pushL c P) Q → Fits c (P ++ Q)
  | [], _, _, _, h => h
  | x :: P, Q, c, h, g => ⟨h.1, Fits.append h.2 g⟩
theorem Fits.split : ∀ {P Q : List Flw} {c : Caps}, Fits c (P ++ Q) → Fits c P ∧ Fits (pushL c P) Q
  | [], _, _, h => ⟨trivial, h⟩
  | x :: P, Q, c, h => ⟨⟨h.1, (Fits.split h.2).1⟩, (Fits.split h.2).2⟩
theorem psW_pushL : ∀ (L : List Nat) (c : Caps) (m : Int), psW c L m = pushL c (flW L m)
  | [], c, m => rfl
  | [_], c, m => rfl
  | a :: b :: L, c, m => by rw [psW, flW, pushL, psW_pushL (b :: L)]
theorem pushL_play : ∀ (P : List Flw) {c : Caps}, PlayC c → PlayC (pushL c P)
  | [], c, h => h
  | x :: P, c, h => by rw [pushL]; exact pushL_play P (h.push _ _ _)
theorem flW_fits {d : Nat → Nat} {m : Int} (h1 : 1 ≤ m) : ∀ (L : List Nat) (c : Caps), Drop1 d L → (∀ x y, prB L x y = true → m ≤ c x y) → (∀ x ∈ L, x ≤ 16) → Fits c (flW L m)
  | [], c, _, _, _ => trivial
  | [_], c, _, _, _ => trivial
  | a :: b :: L, c, hd, hf, hr => by
    have ht := hd.tail
    have hab := hf a b (prB_cons.2 (.inl ⟨rfl, rfl⟩))
    have hne : a ≠ b := fun e => by rw [e] at ht; omega
    refine ⟨⟨h1, hab, hr a List.mem_cons_self, hr b (List.mem_cons_of_mem _ List.mem_cons_self)⟩, flW_fits h1 (b :: L) _ ht.2 (fun u v hp => ?_) (fun x hx => hr x (List.mem_cons_of_mem _ hx))⟩
    have h3 := Drop1.near ht.2 hp
    have h4 := ht.2 u v hp
    show m ≤ pushT c a b m u v
    rw [pushT_at h1 hab hne, if_neg (fun e => by rw [← e.1] at h3; omega), if_neg (fun e => by rw [← e.1, ← e.2] at h4; omega)]
    have := hf u v (prB_cons.2 (.inr hp))
    omega
/-- What a party gets by pushes. -/
def netP (p : Nat) : List Flw → Int
  | [] => 0
  | x :: P => (if x.t = p then x.n else 0) - (if x.f = p then x.n else 0) + netP p P
theorem netP_append (p : Nat) : ∀ (P Q : List Flw), netP p (P ++ Q) = netP p P + netP p Q
  | [], Q => by simp [netP]
  | x :: P, Q => by rw [List.cons_append, netP, netP_append p P Q, netP]; omega
theorem netP_way (p : Nat) (m : Int) : ∀ (L : List Nat) (a z : Nat), (a :: L).getLast? = some z → netP p (flW (a :: L) m) = (if z = p then m else 0) - (if a = p then m else 0)
  | [], a, z, h => by
    simp at h
    subst h
    simp [flW, netP]
  | b :: L, a, z, h => by
    show (if b = p then m else 0) - (if a = p then m else 0) + netP p (flW (b :: L) m) = _
    rw [netP_way p m L b z (by simpa using h)]
    omega
section
variable {f t : Nat} {c0 : Caps} {n0 : Int}
theorem WayP.ends {c : Caps} {d : Nat → Nat} {L : List Nat} (h : WayP c f t d L) : ∃ M, L = f :: M ∧ (f :: M).getLast? = some t := by
  obtain ⟨M, rfl⟩ := h.head
  refine ⟨M, rfl, ?_⟩
  have := h.last
  rwa [← List.getLast?_eq_getElem?] at this
theorem Tr.done (h0 : PlayC c0) {k : Nat} {c : Caps} {n : Int} {P : List Flw} (h : Tr f t c0 n0 k c n P) : pushL c0 P = c ∧ Fits c0 P ∧ ∀ p, netP p P = (if t = p then n0 - n else 0) - (if f = p then n0 - n else 0) := by
  induction h with
  | nil => exact ⟨rfl, trivial, fun p => by simp [netP]⟩
  | @snoc k c n P L h h1 h2 h3 ih =>
    obtain ⟨i1, i2, i3⟩ := ih
    have hp := h.play h0
    obtain ⟨d, hw⟩ := h2.way hp.good h3
    have hm := mnW_pos c L n h1 hw.cap
    refine ⟨by rw [pushL_append, i1, psW_pushL], i2.append (by rw [i1]; exact flW_fits (by omega) L c hw.drop (fun x y hxy => mnW_fit c L n hxy) (fun x hx => (hw.rng x hx).2)), fun p => ?_⟩
    obtain ⟨M, rfl, hl⟩ := hw.ends
    rw [netP_append, i3, netP_way p _ M f t hl]
    split <;> split <;> omega
theorem Fits.at {c : Caps} {P : List Flw} {i : Nat} {x : Flw} (h : Fits c P) (hx : P[i]? = some x) : (1 ≤ x.n ∧ x.n ≤ pushL c (P.take i) x.f x.t ∧ x.f ≤ 16 ∧ x.t ≤ 16) ∧ pushL c (P.take (i + 1)) = pushT (pushL c (P.take i)) x.f x.t x.n ∧ ∀ p, netP p (P.take (i + 1)) = netP p (P.take i) - (if x.f = p then x.n else 0) + (if x.t = p then x.n else 0) := by
  have hlt : i < P.length := by
    apply Classical.byContradiction
    intro hn
    rw [List.getElem?_eq_none (by omega)] at hx
    cases hx
  have e1 : P.take (i + 1) = P.take i ++ [x] := by
    rw [List.take_add_one, hx]; rfl
  have e2 : P = P.take i ++ (x :: P.drop (i + 1)) := by
    have h3 : P[i]'hlt = x := by rw [List.getElem?_eq_getElem hlt] at hx; exact Option.some.inj hx
    rw [← h3, ← List.drop_eq_getElem_cons hlt, List.take_append_drop]
  rw [e2] at h
  refine ⟨h.split.2.1, by rw [e1, pushL_append]; rfl, fun p => by rw [e1, netP_append]; simp [netP]; omega⟩
theorem netP_bnd {c : Caps} (p : Nat) : ∀ {P : List Flw} {c : Caps}, PlayC c → Fits c P → -(P.length * 4398046511104 : Int) ≤ netP p P ∧ netP p P ≤ P.length * 4398046511104
  | [], c, _, _ => by simp [netP]
  | x :: P, c, h0, h => by
    have ih := netP_bnd (c := c) p (h0.push x.f x.t x.n) h.2
    obtain ⟨h1, h2, _⟩ := h.1
    have h3 := h0.sum x.f x.t
    have h4 := h0.good.ge x.t x.f
    rw [netP, List.length_cons]
    push_cast
    split <;> split <;> constructor <;> omega
theorem Fits.take {c : Caps} {P : List Flw} (h : Fits c P) (i : Nat) : Fits c (P.take i) := by
  rw [← List.take_append_drop i P] at h
  exact h.split.1
theorem RouteOut.done {c : Caps} {want got : Int} {P : List Flw} (h0 : PlayC c) (h : RouteOut f t c want P got) : Fits c P ∧ (0 ≤ got) ∧ ∀ p, netP p P = (if t = p then got else 0) - (if f = p then got else 0) := by
  obtain ⟨k, c1, r, h1, h2, rfl⟩ := h
  obtain ⟨d1, d2, d3⟩ := h1.done h0
  by_cases hw : want ≤ 0
  · cases h1 with
    | nil => exact ⟨trivial, by omega, fun p => by simp [netP]⟩
    | snoc q1 q2 _ _ => have := q1.top h0; omega
  · have := h1.le h0 (by omega)
    refine ⟨d2, by omega, fun p => ?_⟩
    rw [d3]
    split <;> split <;> omega
/-- Behind a route: what is left over a cut, and where less goes than was wanted no way is left. -/
theorem RouteOut.left {c : Caps} {want got : Int} {P : List Flw} (h0 : PlayC c) (h : RouteOut f t c want P got) : (∀ S : Nat → Bool, S f = true → S t = false → cutS c S = got + cutS (pushL c P) S) ∧ (got < want → IsShort (pushL c P) f t []) ∧ got ≤ Max.max want 0 := by
  obtain ⟨k, c1, r, h1, h2, rfl⟩ := h
  obtain ⟨d1, d2, d3⟩ := h1.done h0
  rw [d1]
  by_cases hw : want ≤ 0
  · cases h1 with
    | nil => exact ⟨fun S _ _ => by omega, fun h => by omega, by omega⟩
    | snoc q1 q2 _ _ => have := q1.top h0; omega
  · have hle := h1.le h0 (by omega)
    refine ⟨fun S hf ht => ?_, fun h => ?_, by omega⟩
    · have := h1.cut h0 hf ht
      omega
    · rcases h2 with h2 | h2
      · omega
      · exact h2
/-- By what went in one ask, less goes in the next one. -/
theorem RouteOut.twice {c : Caps} {want got most most2 : Int} {P Q R : List Flw} (h0 : PlayC c) (hf : mayP f = true) (ht : mayP t = true) (hne : f ≠ t) (h : RouteOut f t c want P got) (hm : RouteOut f t c 9223372036854775807 Q most) (hm2 : RouteOut f t (pushL c P) 9223372036854775807 R most2) : most2 = most - got := by
  have h1 := pushL_play P h0
  obtain ⟨l1, _, _⟩ := h.left h0
  obtain ⟨m1, m2, _⟩ := hm.left h0
  obtain ⟨n1, n2, _⟩ := hm2.left h1
  have b0 := h0.cutB (fun p => decide (p = f))
  have b1 := h1.cutB (fun p => decide (p = f))
  have s1 : (fun p => decide (p = f)) f = true := by simp
  have s2 : (fun p => decide (p = f)) t = false := by simp; exact fun e => hne e.symm
  have g1 := (pushL_play Q h0).good
  have g2 := (pushL_play R h1).good
  have z0 := g1.cut0 (fun p => decide (p = f))
  have z1 := g2.cut0 (fun p => decide (p = f))
  have a1 := m1 (fun p => decide (p = f)) s1 s2
  have a2 := n1 (fun p => decide (p = f)) s1 s2
  obtain ⟨S, x1, x2, x3⟩ := (m2 (by omega)).cut g1 hf ht hne
  obtain ⟨T, y1, y2, y3⟩ := (n2 (by omega)).cut g2 hf ht hne
  have e1 := m1 S x1 x2
  have e2 := l1 S x1 x2
  have e3 := n1 S x1 x2
  have e4 := g2.cut0 S
  have e5 := m1 T y1 y2
  have e6 := l1 T y1 y2
  have e7 := n1 T y1 y2
  have e8 := g1.cut0 T
  omega
end
end Go.Proofs.Ytglehneaphigdaa
