/- What slices.Clip, Grow and Concat do at []byte. -/
import Derived.Test.YtlinhcbjljcgbaaDoorRows
import Derived.Test.YtlinhcbjljcgbaaDoorBase
import Derived.Lib.AppendZeros
import Derived.Outline
namespace Go.Proofs.YtlinhcbjljcgbaaDoor
open Go.RowKit
set_option linter.unusedVariables false

theorem slTy_mk {P : Program} {t e size bytes : Nat} {z : Value} (h1 : P.underlying t = some (.slice e)) (h2 : (P.info? e).map (fun i => (i.zero, i.size, i.bytes)) = some (some z, size, bytes))
    (h3 : z.cells.size = size) (h4 : 0 < size) : SlTy P t e size bytes z := by
  obtain ⟨j, hj, he⟩ := Option.map_eq_some_iff.1 h2
  simp only [Prod.mk.injEq] at he
  exact ⟨h1, ⟨j, hj, he.1, he.2.1, he.2.2⟩, h3, h4⟩
/-- append(nil, make(n)...): a new row of room n at least. -/
theorem wpl_grow_nil {P : Program} {w : World} {ops : Array Oper} {rest : List Oper} {o : Oper} {a : Act} {Q : Exit → Act → World → Prop} (hgd : o.guard = none) (s x : Operand) (t tn : TypeId)
    (ho : o.op = .call { callee := .builtin .append, args := #[s, x], argTypes := #[t, tn] })
    {e size bytes : Nat} {z : Value} (T : SlTy P t e size bytes z) (kn k : IntKind) (htn : P.underlying tn = some (.int kn)) (base n : Nat) (h0 : 0 < n) (h63 : n ≤ maxLen) (h48 : n * bytes ≤ 281474976710656)
    (hs : a.eval s = .slice none 0 0) (hx : a.eval x = .int k n) (hbase : base ≤ w.heap.size)
    (h : ∀ cap w', w'.ownsRow base e size (.slice (some ⟨w.heap.size, 0, none⟩) 0 cap) 0 [] → n ≤ cap → cap ≤ maxLen → w.grownBy w' none → wpList P ops Q rest (a.put o.dst (.slice (some ⟨w.heap.size, 0, none⟩) n cap)) w') : wpList P ops Q (o :: rest) a w := by
  obtain ⟨i, hi, hz, hsz, hb⟩ := T.inf
  have hcap := grownCap_ge w n 0 e
  have hcm := grownCap_le_maxLen w n 0 e h63
  refine Lib.wpList_append_run w hgd s x t tn ho _ _ hs hx _ _ (Lib.run_append_nil_zeros w t tn o.type e i z k kn T.und htn hi hz n h0 (by rw [hsz]; exact T.pos) (by unfold maxLen at h63; omega) (by rw [hb]; exact h48)) ?_
  refine h (grownCap w n 0 e) _ ?_ hcap hcm ?_
  · refine World.ownsRow_made w.drew _ _ (by simpa using hbase) hcm ?_
    simp only [Array.size_append, Builtin.zeroCells, Array.size_map, Array.size_range, T.zc]
    rw [← Nat.add_mul]; congr 1; omega
  · exact ⟨rfl, rfl, rfl, by simp, fun k hk _ => Below.heap_alloc _ _ _ (by simpa using hk)⟩

theorem slB : SlTy Tryd.prog 22 5 1 1 (.int .u8 0) := slTy_mk Tryd.underlying22 (by kernel_rfl) rfl (by decide)

theorem clip_any (a : Option Addr) (n c : Nat) (w : World) (hn : n ≤ c) (hc : c ≤ maxLen) :
    Calls Tryd.prog 34 #[.slice a n c] w fun e w' => e = .returned (.slice a n n) ∧ w = w' := by
  unfold maxLen at hc
  have ha : a.map (fun x => x.add 0) = a := by cases a <;> simp [Addr.add]
  go_enter Tryd.func34, Tryd.ntmps34
  go_wp2
  go_ret
  exact ⟨rfl, rfl⟩

set_option maxHeartbeats 400000 in
theorem grow_nil (n : Nat) (w : World) (hn : n ≤ 1000000) :
    Calls Tryd.prog 48 #[.slice none 0 0, .int .i64 n] w fun e w' => ∃ v, e = .returned v ∧ w'.ownsRow w.heap.size 5 1 v 0 [] ∧ Below w.heap.size w w' := by
  rcases Nat.eq_zero_or_pos n with rfl | hpos
  · go_enter Tryd.func48, Tryd.ntmps48
    go_wp2
    go_ret
    exact ⟨_, rfl, World.ownsRow_nil _ _ _ _, Below.refl _ _⟩
  · go_enter Tryd.func48, Tryd.ntmps48
    go_wp2_with (at_builtin; refine wpl_grow_nil rfl _ _ _ _ rfl slB .i64 .i64 Tryd.underlying3 w.heap.size n hpos (by unfold maxLen; omega) (by omega) rfl rfl (Nat.le_refl _) ?_; intro cap w1 hown hcap hcm hg)
    go_ret
    exact ⟨_, rfl, hown, (Below.refl _ _).grown hg (Nat.le_refl _) (by simp)⟩

theorem flat_take {α : Type} (ps : List (List α)) (k : Nat) (hk : k < ps.length) : (ps.take (k + 1)).flatten = (ps.take k).flatten ++ ps[k] := by
  rw [List.take_succ_eq_append_getElem hk, List.flatten_append]; simp
theorem flat_le {α : Type} (ps : List (List α)) (k : Nat) : (ps.take k).flatten.length ≤ ps.flatten.length := by
  conv => rhs; rw [← List.take_append_drop k ps, List.flatten_append, List.length_append]
  omega

/-- Each of the values is a row that can be read, with the cells that stand at its place. -/
def Parts (w : World) (vs : List Value) (ps : List (List Value)) : Prop :=
  vs.length = ps.length ∧ ∀ i (h : i < ps.length), ∃ ao c, vs[i]? = some (.slice ao ps[i].length c) ∧ Rd w ao ps[i] ∧ ∀ u ∈ ps[i], u.oneCell' = true

set_option maxHeartbeats 1000000 in
theorem concat_any (a : Option Addr) (n c : Nat) (vs : List Value) (ps : List (List Value)) (w : World) (hn : n = vs.length) (hm : n ≤ maxLen) (hv : Rd w a vs) (hp : Parts w vs ps) (ht : ps.flatten.length ≤ 1000000) :
    Calls Tryd.prog 35 #[.slice a n c] w fun e w' => ∃ v, e = .returned v ∧ w'.ownsRow w.heap.size 5 1 v ps.flatten.length ps.flatten ∧ Below w.heap.size w w' := by
  subst hn
  unfold maxLen at hm
  obtain ⟨hlen, hp⟩ := hp
  have HV := Lib.hid hv; clear hv
  have HP := Lib.hid hp; clear hp
  have HL := Lib.hid hlen; clear hlen
  go_enter Tryd.func35, Tryd.ntmps35
  go_wp2
  go_loop [3, 11] (fun s i => ∃ k : Nat, k ≤ vs.length ∧ i = .int .i64 k ∧ s = .int .i64 ((ps.take k).flatten.length : Nat)) (fun _ i => vs.length - (intOf i).toNat)
  case atStart => exact ⟨0, Nat.zero_le _, rfl, rfl⟩
  case round =>
    obtain ⟨k, hk, rfl, rfl⟩ := hrel
    have hle := flat_le ps k
    by_cases hlt : k < vs.length
    · obtain ⟨b, o, rfl, hcell⟩ := HV.out k hlt
      have hlt' : k < ps.length := by have := HL.out; omega
      obtain ⟨ao, cc, hvk, hrd, hone⟩ := HP.out k hlt'
      have e : vs[k] = .slice ao ps[k].length cc := by rw [List.getElem?_eq_getElem hlt] at hvk; exact Option.some.inj hvk
      rw [e] at hcell
      have hft := flat_take ps k hlt'
      have hle2 := flat_le ps (k + 1)
      rw [hft, List.length_append] at hle2
      have HF := Lib.hid hft
      clear hft hvk hrd hone e
      generalize hq : ps[k].length = q at *
      have HQ := Lib.hid hq; clear hq
      generalize hr : (ps.take k).flatten.length = r at *
      have HR := Lib.hid hr; clear hr
      go_wp2
      go_round
      case rel =>
        refine ⟨k + 1, by omega, by go_num, ?_⟩
        rw [HF.out, List.length_append, HQ.out, HR.out]; go_num
      case measure => simp [intOf]; omega
    · obtain rfl : k = vs.length := by omega
      have e : ps.take vs.length = ps := List.take_of_length_le (by have := HL.out; omega)
      rw [e]
      clear e hle
      generalize hr : ps.flatten.length = r at *
      have HR := Lib.hid hr; clear hr
      go_wp2_with fail
      refine (grow_nil r w (by omega)).mono ?_
      rintro e w1 ⟨v0, rfl, hown0, hb0⟩
      go_wp2_with fail
      go_loopw [6, 27] (fun s i wr => ∃ k : Nat, k ≤ vs.length ∧ i = .int .i64 k ∧ wr.ownsRow w.heap.size 5 1 s (ps.take k).flatten.length (ps.take k).flatten ∧ Below w.heap.size w wr) (fun _ i _ => vs.length - (intOf i).toNat)
      case atStart => exact ⟨0, Nat.zero_le _, rfl, by simpa using hown0, hb0⟩
      case round =>
        obtain ⟨k, hk, rfl, hown, hbl⟩ := hrel
        have hle := flat_le ps k
        by_cases hlt : k < vs.length
        · obtain ⟨b, o, rfl, hcell⟩ := HV.out k hlt
          have hlt' : k < ps.length := by have := HL.out; omega
          obtain ⟨ao, cc, hvk, hrd, hone⟩ := HP.out k hlt'
          have e : vs[k] = .slice ao ps[k].length cc := by rw [List.getElem?_eq_getElem hlt] at hvk; exact Option.some.inj hvk
          rw [e] at hcell
          have hcell' := Below.cell hbl (p := ⟨b, o + k, none⟩) (by simpa using World.block_lt_of_cell? w _ hcell)
          rw [hcell] at hcell'
          have hft := flat_take ps k hlt'
          have hle2 := flat_le ps (k + 1)
          rw [hft, List.length_append] at hle2
          have HF := Lib.hid hft
          have HRD := Lib.hid (hrd.below hbl)
          have HONE := Lib.hid hone
          clear hft hvk hrd hone e hcell
          have HB := Lib.hid hbl
          have hsz := hbl.size
          clear hbl hown0 hb0
          have HR' := HR.out
          go_wp2_with (at_builtin; refine wpl_append rfl _ _ _ rfl slB w.heap.size _ _ _ rfl hown ao _ cc ps[k] rfl (by simp) HRD.out HONE.out (by unfold maxLen; omega) (by omega) hsz ?_; intro v' w' hown' hgr _)
          go_roundw
          case rel =>
            refine ⟨k + 1, by omega, by go_num, ?_, HB.out.grown hgr hsz (fun g hg => (hown.lt g hg).1)⟩
            rw [HF.out, List.length_append]; exact hown'
          case measure => simp [intOf]; omega
        · obtain rfl : k = vs.length := by omega
          have e : ps.take vs.length = ps := List.take_of_length_le (by have := HL.out; omega)
          rw [e] at hown
          clear e hle hown0 hb0
          go_wp2_with fail
          go_ret
          exact ⟨_, rfl, hown, hbl⟩
end Go.Proofs.YtlinhcbjljcgbaaDoor
