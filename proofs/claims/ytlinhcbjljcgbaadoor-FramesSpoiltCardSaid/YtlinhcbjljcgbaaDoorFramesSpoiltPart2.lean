/- FramesSpoilt: part 2 of its proof: Slices, Put, Ends, Twin, Ref15, Ext, Tail. -/
import Derived.Test.YtlinhcbjljcgbaaDoorFramesSpoiltPart1
import Derived.Test.YtlinhcbjljcgbaaDoorRows
import Derived.Lib.AppendZeros
import Derived.Outline
import Derived.Deep.QuietTactic
import Derived.BigQuiet
import Derived.Deep.RegionWith
import Derived.WalkSmall
import Derived.Deep.RegionHeld3
import Derived.Laws.MakeOwn
import Derived.Test.YtlinhcbjljcgbaaDoorProg
import Derived.StillTail
/- What slices.Clip, Grow and Concat do at []byte. -/
namespace Go.Proofs.YtlinhcbjljcgbaaDoor
open Go.RowKit
set_option linter.unusedVariables false

theorem slTy_mkE {P : Program} {t e size bytes : Nat} {z : Value} (h1 : P.underlying t = some (.slice e)) (h2 : (P.info? e).map (fun i => (i.zero, i.size, i.bytes)) = some (some z, size, bytes))
    (h3 : z.cells.size = size) (h4 : 0 < size) : SlTy P t e size bytes z := by
  obtain ⟨j, hj, he⟩ := Option.map_eq_some_iff.1 h2
  simp only [Prod.mk.injEq] at he
  exact ⟨h1, ⟨j, hj, he.1, he.2.1, he.2.2⟩, h3, h4⟩
/-- append(nil, make(n)...): a new row of room n at least. -/
theorem wpl_grow_nil {P : Program} {w : World} {ops : Array Oper} {rest : List Oper} {o : Oper} {a : Act} {Q : Exit → Act → World → Prop} (hgd : o.guard = none) (s x : Operand) (t tn : TypeId)
    (ho : o.op = .call { callee := .builtin .append, args := #[s, x], argTypes := #[t, tn] })
    {e size bytes : Nat} {z : Value} (T : SlTy P t e size bytes z) (kn k : IntKind) (htn : P.underlying tn = some (.int kn)) (base n : Nat) (h0 : 0 < n) (h63 : n ≤ maxLen) (h48 : n * bytes ≤ 281474976710656)
    (hs : a.eval s = .slice none 0 0) (hx : a.eval x = .int k n) (hbase : base ≤ w.heap.size)
    (h : ∀ cap w', w'.ownsRow base e size (.slice (some ⟨w.heap.size, 0, none⟩) 0 cap) 0 [] → n ≤ cap → cap ≤ maxLen → w.grownBy w' none → wpList P ops Q rest (a.put o.dst (.slice (some ⟨w.heap.size, 0, none⟩) n cap)) w') : wpList P ops Q (o :: rest) a w := by
  obtain ⟨i, hi, hz, hsz, hb⟩ := T.inf
  have hcap := grownCap_ge w n 0 e
  have hcm := grownCap_le_maxLen w n 0 e h63
  refine Lib.wpList_append_run w hgd s x t tn ho _ _ hs hx _ _ (Lib.run_append_nil_zeros w t tn o.type e i z k kn T.und htn hi hz n h0 (by rw [hsz]; exact T.pos) (by unfold maxLen at h63; omega) (by rw [hb]; exact h48)) ?_
  refine h (grownCap w n 0 e) _ ?_ hcap hcm ?_
  · refine World.ownsRow_made w.drew _ _ (by simpa using hbase) hcm ?_
    simp only [Array.size_append, Builtin.zeroCells, Array.size_map, Array.size_range, T.zc]
    rw [← Nat.add_mul]; congr 1; omega
  · exact ⟨rfl, rfl, rfl, by simp, fun k hk _ => Below.heap_alloc _ _ _ (by simpa using hk)⟩

theorem slB : SlTy Tryd.prog 22 5 1 1 (.int .u8 0) := slTy_mkE Tryd.underlying22 (by kernel_rfl) rfl (by decide)

theorem clip_any (a : Option Addr) (n c : Nat) (w : World) (hn : n ≤ c) (hc : c ≤ maxLen) :
    Calls Tryd.prog 34 #[.slice a n c] w fun e w' => e = .returned (.slice a n n) ∧ w = w' := by
  unfold maxLen at hc
  have ha : a.map (fun x => x.add 0) = a := by cases a <;> simp [Addr.add]
  go_enter Tryd.func34, Tryd.ntmps34
  go_wp2
  go_ret
  exact ⟨rfl, rfl⟩

set_option maxHeartbeats 400000 in
theorem grow_nil (n : Nat) (w : World) (hn : n ≤ 1000000) :
    Calls Tryd.prog 48 #[.slice none 0 0, .int .i64 n] w fun e w' => ∃ v, e = .returned v ∧ w'.ownsRow w.heap.size 5 1 v 0 [] ∧ Below w.heap.size w w' := by
  rcases Nat.eq_zero_or_pos n with rfl | hpos
  · go_enter Tryd.func48, Tryd.ntmps48
    go_wp2
    go_ret
    exact ⟨_, rfl, World.ownsRow_nil _ _ _ _, Below.refl _ _⟩
  · go_enter Tryd.func48, Tryd.ntmps48
    go_wp2_with (at_builtin; refine wpl_grow_nil rfl _ _ _ _ rfl slB .i64 .i64 Tryd.underlying3 w.heap.size n hpos (by unfold maxLen; omega) (by omega) rfl rfl (Nat.le_refl _) ?_; intro cap w1 hown hcap hcm hg)
    go_ret
    exact ⟨_, rfl, hown, (Below.refl _ _).grown hg (Nat.le_refl _) (by simp)⟩

theorem flat_take {α : Type} (ps : List (List α)) (k : Nat) (hk : k < ps.length) : (ps.take (k + 1)).flatten = (ps.take k).flatten ++ ps[k] := by
  rw [List.take_succ_eq_append_getElem hk, List.flatten_append]; simp
theorem flat_le {α : Type} (ps : List (List α)) (k : Nat) : (ps.take k).flatten.length ≤ ps.flatten.length := by
  conv => rhs; rw [← List.take_append_drop k ps, List.flatten_append, List.length_append]
  omega

/-- Each of the values is a row that can be read, with the cells that stand at its place. -/
def Parts (w : World) (vs : List Value) (ps : List (List Value)) : Prop :=
  vs.length = ps.length ∧ ∀ i (h : i < ps.length), ∃ ao c, vs[i]? = some (.slice ao ps[i].length c) ∧ Rd w ao ps[i] ∧ ∀ u ∈ ps[i], u.oneCell' = true

set_option maxHeartbeats 1000000 in
theorem concat_any (a : Option Addr) (n c : Nat) (vs : List Value) (ps : List (List Value)) (w : World) (hn : n = vs.length) (hm : n ≤ maxLen) (hv : Rd w a vs) (hp : Parts w vs ps) (ht : ps.flatten.length ≤ 1000000) :
    Calls Tryd.prog 35 #[.slice a n c] w fun e w' => ∃ v, e = .returned v ∧ w'.ownsRow w.heap.size 5 1 v ps.flatten.length ps.flatten ∧ Below w.heap.size w w' := by
  subst hn
  unfold maxLen at hm
  obtain ⟨hlen, hp⟩ := hp
  have HV := Lib.hid hv; clear hv
  have HP := Lib.hid hp; clear hp
  have HL := Lib.hid hlen; clear hlen
  go_enter Tryd.func35, Tryd.ntmps35
  go_wp2
  go_loop [3, 11] (fun s i => ∃ k : Nat, k ≤ vs.length ∧ i = .int .i64 k ∧ s = .int .i64 ((ps.take k).flatten.length : Nat)) (fun _ i => vs.length - (intOf i).toNat)
  case atStart => exact ⟨0, Nat.zero_le _, rfl, rfl⟩
  case round =>
    obtain ⟨k, hk, rfl, rfl⟩ := hrel
    have hle := flat_le ps k
    by_cases hlt : k < vs.length
    · obtain ⟨b, o, rfl, hcell⟩ := HV.out k hlt
      have hlt' : k < ps.length := by have := HL.out; omega
      obtain ⟨ao, cc, hvk, hrd, hone⟩ := HP.out k hlt'
      have e : vs[k] = .slice ao ps[k].length cc := by rw [List.getElem?_eq_getElem hlt] at hvk; exact Option.some.inj hvk
      rw [e] at hcell
      have hft := flat_take ps k hlt'
      have hle2 := flat_le ps (k + 1)
      rw [hft, List.length_append] at hle2
      have HF := Lib.hid hft
      clear hft hvk hrd hone e
      generalize hq : ps[k].length = q at *
      have HQ := Lib.hid hq; clear hq
      generalize hr : (ps.take k).flatten.length = r at *
      have HR := Lib.hid hr; clear hr
      go_wp2
      go_round
      case rel =>
        refine ⟨k + 1, by omega, by go_num, ?_⟩
        rw [HF.out, List.length_append, HQ.out, HR.out]; go_num
      case measure => simp [intOf]; omega
    · obtain rfl : k = vs.length := by omega
      have e : ps.take vs.length = ps := List.take_of_length_le (by have := HL.out; omega)
      rw [e]
      clear e hle
      generalize hr : ps.flatten.length = r at *
      have HR := Lib.hid hr; clear hr
      go_wp2_with fail
      refine (grow_nil r w (by omega)).mono ?_
      rintro e w1 ⟨v0, rfl, hown0, hb0⟩
      go_wp2_with fail
      go_loopw [6, 27] (fun s i wr => ∃ k : Nat, k ≤ vs.length ∧ i = .int .i64 k ∧ wr.ownsRow w.heap.size 5 1 s (ps.take k).flatten.length (ps.take k).flatten ∧ Below w.heap.size w wr) (fun _ i _ => vs.length - (intOf i).toNat)
      case atStart => exact ⟨0, Nat.zero_le _, rfl, by simpa using hown0, hb0⟩
      case round =>
        obtain ⟨k, hk, rfl, hown, hbl⟩ := hrel
        have hle := flat_le ps k
        by_cases hlt : k < vs.length
        · obtain ⟨b, o, rfl, hcell⟩ := HV.out k hlt
          have hlt' : k < ps.length := by have := HL.out; omega
          obtain ⟨ao, cc, hvk, hrd, hone⟩ := HP.out k hlt'
          have e : vs[k] = .slice ao ps[k].length cc := by rw [List.getElem?_eq_getElem hlt] at hvk; exact Option.some.inj hvk
          rw [e] at hcell
          have hcell' := Below.cell hbl (p := ⟨b, o + k, none⟩) (by simpa using World.block_lt_of_cell? w _ hcell)
          rw [hcell] at hcell'
          have hft := flat_take ps k hlt'
          have hle2 := flat_le ps (k + 1)
          rw [hft, List.length_append] at hle2
          have HF := Lib.hid hft
          have HRD := Lib.hid (hrd.below hbl)
          have HONE := Lib.hid hone
          clear hft hvk hrd hone e hcell
          have HB := Lib.hid hbl
          have hsz := hbl.size
          clear hbl hown0 hb0
          have HR' := HR.out
          go_wp2_with (at_builtin; refine wpl_append rfl _ _ _ rfl slB w.heap.size _ _ _ rfl hown ao _ cc ps[k] rfl (by simp) HRD.out HONE.out (by unfold maxLen; omega) (by omega) hsz ?_; intro v' w' hown' hgr _)
          go_roundw
          case rel =>
            refine ⟨k + 1, by omega, by go_num, ?_, HB.out.grown hgr hsz (fun g hg => (hown.lt g hg).1)⟩
            rw [HF.out, List.length_append]; exact hown'
          case measure => simp [intOf]; omega
        · obtain rfl : k = vs.length := by omega
          have e : ps.take vs.length = ps := List.take_of_length_le (by have := HL.out; omega)
          rw [e] at hown
          clear e hle hown0 hb0
          go_wp2_with fail
          go_ret
          exact ⟨_, rfl, hown, hbl⟩
end Go.Proofs.YtlinhcbjljcgbaaDoor

/- What sums.Put and sums.Ends do, for every list of bytes. -/
namespace Go.Proofs.YtlinhcbjljcgbaaDoor
open Go.RowKit
attribute [local go_sem high] bits32_shr8 bits32_shr16 bits32_shr24 bits32_8

theorem four_any (n : BitVec 32) (w : World) :
    Calls Tryd.prog 36 #[.int .u32 (I32 n)] w fun e w' => e = .returned (.slice (some ⟨w.heap.size, 0, none⟩) 4 4) ∧ w' = w.alloc (.cells ((four n).map B8).toArray 5) := by
  go_enter Tryd.func36, Tryd.ntmps36
  go_wp2
  go_ret
  exact ⟨rfl, rfl⟩

theorem four_own (n : BitVec 32) (w : World) :
    Calls Tryd.prog 36 #[.int .u32 (I32 n)] w fun e w' => ∃ v, e = .returned v ∧ Own w' w.heap.size 5 1 v 4 ((four n).map B8) ∧ Below w.heap.size w w' := by
  refine (four_any n w).mono ?_
  rintro e w' ⟨rfl, rfl⟩
  exact ⟨_, rfl, Own.ofRow (World.ownsRow_lit w ((four n).map B8).toArray 4 (Nat.le_refl _) (by unfold maxLen; omega) rfl), (Below.refl _ _).alloc (Nat.le_refl _) _⟩

theorem TabAt.below {w w' : World} (h : TabAt w) (hb : Below w.heap.size w w') : TabAt w' := fun x => by
  have := h x
  rw [Below.cell hb (World.block_lt_of_cell? w _ this)]; exact this

set_option maxHeartbeats 400000 in
theorem put_any (a : Option Addr) (n cap : Nat) (zs : List (BitVec 8)) (w : World) (hn : n = zs.length) (hl : n ≤ 100000) 
    (hc : Rd w a (zs.map B8)) (ht : TabAt w) :
    Calls Tryd.prog 12 #[.slice a n cap] w fun e w' => ∃ v, e = .returned v ∧ Own w' w.heap.size 5 1 v (n + 4) ((zs ++ four (sumOf zs)).map B8) ∧ Below w.heap.size w w' := by
  have HC := Lib.hid hc; clear hc
  have HT := Lib.hid ht; clear ht
  have HN := Lib.hid hn; clear hn
  go_enter Tryd.func12, Tryd.ntmps12
  go_wp2_with fail
  refine (of_any a n cap zs _ HN.out (by unfold maxLen; omega) HC.out HT.out).mono ?_
  rintro e w' ⟨rfl, rfl⟩
  go_wp2_with fail
  refine (four_own _ _).mono ?_
  rintro e w1 ⟨v1, rfl, hown1, hb1⟩
  obtain ⟨ao1, c1, rfl, hrd1, _, _, _⟩ := hown1.rd
  have HO := Lib.hid hrd1
  have HB := Lib.hid hb1
  have hsz1 := hb1.size
  clear hown1 hb1 hrd1
  go_wp2_with fail
  refine (concat_any (some ⟨w1.heap.size, 0, none⟩) 2 2 [.slice a n cap, .slice ao1 4 c1] [zs.map B8, (four (sumOf zs)).map B8] _ rfl (by unfold maxLen; omega) (Rd.lit w1 #[.slice a n cap, .slice ao1 4 c1] _ _)
    ⟨rfl, fun i hi => ?_⟩ (by simp [four, ← HN.out]; omega)).mono ?_
  · simp at hi
    rcases (show i = 0 ∨ i = 1 by omega) with rfl | rfl
    · exact ⟨a, cap, by simp [HN.out], (HC.out.below HB.out).alloc _, oneCell_B8 _⟩
    · exact ⟨ao1, c1, by simp [four], HO.out.alloc _, oneCell_B8 _⟩
  rintro e w2 ⟨v2, rfl, hown2, hb2⟩
  have hlen : (List.map B8 zs ++ (List.map B8 (four (sumOf zs)))).length = n + 4 := by simp [four, HN.out]
  have hown2' : Own w2 w.heap.size 5 1 v2 (n + 4) ((zs ++ four (sumOf zs)).map B8) := by
    have := (Own.ofRow hown2).mono (base' := w.heap.size) (by simp; omega)
    simp only [List.flatten_cons, List.flatten_nil, List.append_nil] at this
    rw [hlen] at this; simpa using this
  have HB2 := Lib.hid (HB.out.trans ((Below.refl _ _).alloc (Nat.le_refl _) _ |>.mono hsz1) |>.trans (hb2.mono (by simp; omega)))
  clear hown2 hb2 hlen
  obtain ⟨ao2, c2, rfl, _, hc2, hm2, _⟩ := hown2'.rd
  have HO2 := Lib.hid hown2'
  clear hown2'
  go_wp2_with fail
  refine (clip_any ao2 _ _ _ hc2 hm2).mono ?_
  rintro e w3 ⟨rfl, rfl⟩
  go_wp2_with fail
  go_ret
  exact ⟨_, rfl, HO2.out.clip, HB2.out⟩
end Go.Proofs.YtlinhcbjljcgbaaDoor

/- What slices.Equal at []byte and sums.Ends answer. -/
namespace Go.Proofs.YtlinhcbjljcgbaaDoor
open Go.RowKit

set_option maxHeartbeats 1000000 in
theorem equal_any (a1 a2 : Option Addr) (n1 n2 c1 c2 : Nat) (xs ys : List (BitVec 8)) (w : World) (h1 : n1 = xs.length) (h2 : n2 = ys.length) (hl : n1 ≤ maxLen)
    (hx : Rd w a1 (xs.map B8)) (hy : Rd w a2 (ys.map B8)) :
    Calls Tryd.prog 38 #[.slice a1 n1 c1, .slice a2 n2 c2] w fun e w' => e = .returned (.bool (decide (xs = ys))) ∧ Below w.heap.size w w' := by
  subst h1 h2
  unfold maxLen at hl
  have HX := Lib.hid hx; clear hx
  have HY := Lib.hid hy; clear hy
  by_cases hlen : xs.length = ys.length
  · have hb : ((xs.length : Int) != ys.length) = false := by simp [hlen]
    go_enter Tryd.func38, Tryd.ntmps38
    have HL := Lib.hid hlen; clear hlen
    go_wp2
    go_loopw [13] (fun i wr => ∃ k : Nat, k ≤ xs.length ∧ i = .int .i64 k ∧ xs.take k = ys.take k ∧ Below w.heap.size w wr) (fun i _ => xs.length - (intOf i).toNat)
    case atStart => exact ⟨0, Nat.zero_le _, rfl, rfl, Below.refl _ _⟩
    case round =>
      obtain ⟨k, hk, rfl, htk, hbl⟩ := hrel
      by_cases hlt : k < xs.length
      · have hlt2 : k < ys.length := by have := HL.out; omega
        obtain ⟨b, o, rfl, hcell⟩ := (HX.out.below hbl) k (by simpa using hlt)
        obtain ⟨b2, o2, rfl, hcell2⟩ := (HY.out.below hbl) k (by simpa using hlt2)
        simp only [List.getElem_map, B8] at hcell hcell2
        have HTK := Lib.hid htk; clear htk
        have HB := Lib.hid hbl; clear hbl
        by_cases hek : xs[k] = ys[k]
        · have hd : (I8 xs[k] != I8 ys[k]) = false := by simp [hek]
          have HEK := Lib.hid hek; clear hek
          go_wp2_with fail
          go_quiet (fail)
          go_wp2
          go_roundw
          case rel => exact ⟨k + 1, by omega, by go_num, take_snoc_eq hlt hlt2 HTK.out HEK.out, below_drewN HB.out _⟩
          case measure => simp [intOf]; omega
        · have hd : (I8 xs[k] != I8 ys[k]) = true := by simp [I8_inj, hek]
          have HEK := Lib.hid hek; clear hek
          go_wp2_with fail
          go_quiet (fail)
          go_wp2
          go_ret
          exact ⟨by rw [decide_eq_false (take_ne hlt hlt2 HEK.out)]; rfl, below_drewN HB.out _⟩
      · obtain rfl : k = xs.length := by omega
        have he : xs = ys := by rw [List.take_length, HL.out, List.take_length] at htk; exact htk
        have HE := Lib.hid he; clear he htk
        go_wp2
        go_ret
        exact ⟨by rw [decide_eq_true HE.out]; rfl, hbl⟩
  · have hb : ((xs.length : Int) != ys.length) = true := by simp; omega
    have hne : xs ≠ ys := by rintro rfl; exact hlen rfl
    have HN := Lib.hid hne; clear hne
    clear hlen
    go_enter Tryd.func38, Tryd.ntmps38
    go_wp2
    go_ret
    exact ⟨by rw [decide_eq_false HN.out]; rfl, Below.refl _ _⟩

theorem Rd.dropMap {w : World} {a : Option Addr} {zs : List Value} (h : Rd w a zs) (k : Nat) : Rd w (a.map (fun x => x.add k)) (zs.drop k) := by
  intro i hi
  have hi' : k + i < zs.length := by simp at hi; omega
  obtain ⟨b, o, rfl, hc⟩ := h (k + i) hi'
  exact ⟨b, o + k, by simp [addr_add], by rw [Nat.add_assoc, hc]; simp⟩

set_option maxHeartbeats 1000000 in
theorem ends_any (a : Option Addr) (n cap : Nat) (zs : List (BitVec 8)) (w : World) (hn : n = zs.length) (hl : n ≤ 100000) (hcap : n ≤ cap) (hcm : cap ≤ maxLen)
    (hc : Rd w a (zs.map B8)) (ht : TabAt w) :
    Calls Tryd.prog 18 #[.slice a n cap] w fun e w' => e = .returned (.bool (endsOf zs)) ∧ Below w.heap.size w w' := by
  unfold maxLen at hcm
  have HC := Lib.hid hc; clear hc
  have HT := Lib.hid ht; clear ht
  have HN := Lib.hid hn; clear hn
  by_cases h4 : n < 4
  · have hd : decide ((n : Int) < 4) = true := by simp; omega
    have he : endsOf zs = false := decide_eq_false (fun h => by have := h.1; have := HN.out; omega)
    rw [he]
    go_enter Tryd.func18, Tryd.ntmps18
    go_wp2
    go_ret
    exact ⟨rfl, Below.refl _ _⟩
  · have hd : decide ((n : Int) < 4) = false := by simp; omega
    have hcd : ¬ cap = n - 4 := by omega
    have hi1 : (4 : Int) ≤ n := by omega
    have hi2 : (n : Int) - 4 ≤ n := by omega
    have hi3 : (n : Int) - 4 ≤ cap := by omega
    have HK := Lib.hid (show ((n : Int) - 4).toNat = n - 4 by omega)
    have h0 : Rd w a ((zs.take (n - 4)).map B8) := by rw [List.map_take]; exact HC.out.take _
    have h1 : Rd w (a.map (fun x => x.add (n - 4))) ((zs.drop (n - 4)).map B8) := by rw [List.map_drop]; exact HC.out.dropMap _
    have H0 := Lib.hid h0
    have H1 := Lib.hid h1
    clear h0 h1
    have he : endsOf zs = decide (zs.drop (n - 4) = four (sumOf (zs.take (n - 4)))) := by
      have := HN.out
      subst this
      unfold endsOf
      simp [Nat.le_of_not_lt h4]
    rw [he]
    clear he
    go_enter Tryd.func18, Tryd.ntmps18
    go_wp2_with fail
    go_region_held3 (fun _ => True) (exact trivial) (first
      | (go_at_call 13; refine (of_any _ _ _ (zs.take (n - 4)) _ (by have := HN.out; simp; omega) (by unfold maxLen; omega) (by exact H0.out.drew) (by exact HT.out)).mono ?_; rintro e w' ⟨rfl, rfl⟩)
      | (go_at_call 36; refine (four_any _ _).mono ?_; rintro e w' ⟨rfl, rfl⟩)
      | (go_at_call 38; refine (equal_any _ _ _ _ _ _ (zs.drop (n - 4)) (four (sumOf (zs.take (n - 4)))) _ (by have := HN.out; simp; omega) (by simp [four]) (by unfold maxLen; omega) (by first | exact H1.out.drew.alloc _ | (rw [HK.out]; exact H1.out.drew.alloc _)) (by exact Rd.lit _ _ _ _)).mono ?_; rintro e w' ⟨rfl, hb⟩))
    go_wp2
    go_ret
    exact ⟨rfl, ((Below.refl _ _).alloc (Nat.le_refl _) _).drew.trans (hb.mono (by simp))⟩
end Go.Proofs.YtlinhcbjljcgbaaDoor

/- Lists of bytes that are the same; copies with room behind; whether a copy was left as it was. -/
namespace Go.Proofs.YtlinhcbjljcgbaaDoor
open Go.RowKit

set_option maxHeartbeats 1000000 in
theorem same_any (a1 a2 : Option Addr) (n1 n2 c1 c2 : Nat) (xs ys : List (BitVec 8)) (w : World) (h1 : n1 = xs.length) (h2 : n2 = ys.length) (hl : n1 ≤ maxLen)
    (hx : Rd w a1 (xs.map B8)) (hy : Rd w a2 (ys.map B8)) :
    Calls Tryd.prog 37 #[.slice a1 n1 c1, .slice a2 n2 c2] w fun e w' => e = .returned (.bool (decide (xs = ys))) ∧ Below w.heap.size w w' := by
  subst h1 h2
  unfold maxLen at hl
  have HX := Lib.hid hx; clear hx
  have HY := Lib.hid hy; clear hy
  by_cases hlen : xs.length = ys.length
  · have hb : ((xs.length : Int) != ys.length) = false := by simp [hlen]
    go_enter Tryd.func37, Tryd.ntmps37
    have HL := Lib.hid hlen; clear hlen
    go_wp2
    go_loopw [5] (fun i wr => ∃ k : Nat, k ≤ xs.length ∧ i = .int .i64 k ∧ xs.take k = ys.take k ∧ Below w.heap.size w wr) (fun i _ => xs.length - (intOf i).toNat)
    case atStart => exact ⟨0, Nat.zero_le _, rfl, rfl, Below.refl _ _⟩
    case round =>
      obtain ⟨k, hk, rfl, htk, hbl⟩ := hrel
      by_cases hlt : k < xs.length
      · have hlt2 : k < ys.length := by have := HL.out; omega
        obtain ⟨b, o, rfl, hcell⟩ := (HX.out.below hbl) k (by simpa using hlt)
        obtain ⟨b2, o2, rfl, hcell2⟩ := (HY.out.below hbl) k (by simpa using hlt2)
        simp only [List.getElem_map, B8] at hcell hcell2
        have HTK := Lib.hid htk; clear htk
        have HB := Lib.hid hbl; clear hbl
        by_cases hek : xs[k] = ys[k]
        · have hd : (I8 xs[k] != I8 ys[k]) = false := by simp [hek]
          have HEK := Lib.hid hek; clear hek
          go_wp2_with fail
          go_quiet (fail)
          go_wp2
          go_roundw
          case rel => exact ⟨k + 1, by omega, by go_num, take_snoc_eq hlt hlt2 HTK.out HEK.out, below_drewN HB.out _⟩
          case measure => simp [intOf]; omega
        · have hd : (I8 xs[k] != I8 ys[k]) = true := by simp [I8_inj, hek]
          have HEK := Lib.hid hek; clear hek
          go_wp2_with fail
          go_quiet (fail)
          go_wp2
          go_ret
          exact ⟨by rw [decide_eq_false (take_ne hlt hlt2 HEK.out)]; rfl, below_drewN HB.out _⟩
      · obtain rfl : k = xs.length := by omega
        have he : xs = ys := by rw [List.take_length, HL.out, List.take_length] at htk; exact htk
        have HE := Lib.hid he; clear he htk
        go_wp2
        go_ret
        exact ⟨by rw [decide_eq_true HE.out]; rfl, hbl⟩
  · have hb : ((xs.length : Int) != ys.length) = true := by simp; omega
    have hne : xs ≠ ys := by rintro rfl; exact hlen rfl
    have HN := Lib.hid hne; clear hne
    clear hlen
    go_enter Tryd.func37, Tryd.ntmps37
    go_wp2
    go_ret
    exact ⟨by rw [decide_eq_false HN.out]; rfl, Below.refl _ _⟩

theorem sameBytes_any (a1 a2 : Option Addr) (n1 n2 c1 c2 : Nat) (xs ys : List (BitVec 8)) (w : World) (h1 : n1 = xs.length) (h2 : n2 = ys.length) (hl : n1 ≤ maxLen)
    (hx : Rd w a1 (xs.map B8)) (hy : Rd w a2 (ys.map B8)) :
    Calls Tryd.prog 16 #[.slice a1 n1 c1, .slice a2 n2 c2] w fun e w' => e = .returned (.bool (decide (xs = ys))) ∧ Below w.heap.size w w' := by
  have HC := Lib.hid (same_any a1 a2 n1 n2 c1 c2 xs ys w h1 h2 hl hx hy)
  clear hx hy h1 h2
  go_enter Tryd.func16, Tryd.ntmps16
  go_wp2_with fail
  refine HC.out.mono ?_
  rintro e w' ⟨rfl, hb⟩
  go_wp2_with fail
  go_ret
  exact ⟨rfl, hb⟩

/-- What a twin is: a block of its own with the list, and the mark twice behind it. -/
def TwinAt (w : World) (g : Nat) (vs : List Value) (m : Value) : Prop := w.heap[g]? = some (.cells (vs ++ [m, m]).toArray 5 (0, 0))
theorem TwinAt.rd {w : World} {g : Nat} {vs : List Value} {m : Value} (h : TwinAt w g vs m) : Rd w (some ⟨g, 0, none⟩) vs :=
  Rd.ofBlock h vs (fun i hi => by simp [List.getElem?_append_left hi])
theorem TwinAt.below {w w' : World} {g : Nat} {vs : List Value} {m : Value} (h : TwinAt w g vs m) (hb : Below w.heap.size w w') : TwinAt w' g vs m := by
  unfold TwinAt
  rw [hb.block g (Array.getElem?_eq_some_iff.1 h).1]; exact h
theorem TwinAt.lt {w : World} {g : Nat} {vs : List Value} {m : Value} (h : TwinAt w g vs m) : g < w.heap.size := (Array.getElem?_eq_some_iff.1 h).1

set_option maxHeartbeats 1000000 in
theorem twin_any (a : Option Addr) (n c : Nat) (vs : List Value) (m : Int) (w : World) (hn : n = vs.length) (hl : n ≤ 1000000) (hx : Rd w a vs) (h1 : ∀ u ∈ vs, u.oneCell' = true) :
    Calls Tryd.prog 33 #[.slice a n c, .int .u8 m] w fun e w' => ∃ g, e = .returned (.slice (some ⟨g, 0, none⟩) n (n + 2)) ∧ w.heap.size ≤ g ∧ TwinAt w' g vs (.int .u8 m) ∧ Below w.heap.size w w' := by
  have HX := Lib.hid hx; clear hx
  have HN := Lib.hid hn; clear hn
  have H1 := Lib.hid h1; clear h1
  go_enter Tryd.func33, Tryd.ntmps33
  go_wp2_with (first
    | (at_make; refine wpl_make0 w rfl _ _ _ rfl slB w.heap.size .i64 .i64 _ (n + 2) rfl rfl (by omega) (by omega) (by unfold maxLen; omega) (Nat.le_refl _) ?_; intro w1 hown1 hg1)
    | (at_builtin; refine wpl_fits rfl (.tmp 10) (.tmp 11) _ rfl slB w.heap.size w.heap.size 0 (n + 2) [] rfl hown1 a n c vs rfl (by have := HN.out; omega) (HX.out.below ((Below.refl _ _).grown hg1 (Nat.le_refl _) (by simp))) H1.out (by omega) ?_; intro w2 hown2 hg2)
    | (at_builtin; refine wpl_fits rfl (.tmp 13) (.tmp 16) _ rfl slB w.heap.size w.heap.size (0 + n) (n + 2) ([] ++ vs) (by simp [go_sem]) (hown2.alloc _) (some ⟨w2.heap.size, 0, none⟩) 2 2 [.int .u8 m, .int .u8 m] rfl rfl (Rd.lit w2 #[.int .u8 m, .int .u8 m] _ _) (by simp [Value.oneCell']) (by omega) ?_; intro w3 hown3 hg3))
  go_ret
  have hb1 : Below w.heap.size w w1 := (Below.refl _ _).grown hg1 (Nat.le_refl _) (by simp)
  have hb2 : Below w.heap.size w w2 := hb1.grown hg2 hb1.size (by rintro k ⟨rfl⟩; exact Nat.le_refl _)
  have hb3 : Below w.heap.size w w3 := (hb2.alloc hb2.size _).grown hg3 (by have := hb2.size; simp; omega) (by rintro k ⟨rfl⟩; exact Nat.le_refl _)
  refine ⟨w.heap.size, rfl, Nat.le_refl _, ?_, hb3⟩
  rcases hown3.2 with ⟨h, _⟩ | ⟨g, cap, cur, hv, _, hg, _, _, hsz, htk⟩
  · simp at h
  · simp only [Value.slice.injEq, Option.some.injEq, Addr.mk.injEq, and_true] at hv
    obtain ⟨rfl, hn2, rfl⟩ := hv
    unfold TwinAt
    rw [hg]
    have e : cur.toList = vs ++ [.int .u8 m, .int .u8 m] := by
      rw [← List.take_of_length_le (l := cur.toList) (i := (0 + n + 2) * 1) (by simp [hsz])]
      simpa using htk
    rw [← e]

theorem twinBytes_any (a : Option Addr) (n c : Nat) (vs : List Value) (w : World) (hn : n = vs.length) (hl : n ≤ 1000000) (hx : Rd w a vs) (h1 : ∀ u ∈ vs, u.oneCell' = true) :
    Calls Tryd.prog 11 #[.slice a n c] w fun e w' => ∃ g, e = .returned (.slice (some ⟨g, 0, none⟩) n (n + 2)) ∧ w.heap.size ≤ g ∧ TwinAt w' g vs (.int .u8 195) ∧ Below w.heap.size w w' := by
  have HC := Lib.hid (twin_any a n c vs 195 w hn hl hx h1)
  clear hn hl hx h1
  go_enter Tryd.func11, Tryd.ntmps11
  go_wp2_with fail
  refine HC.out.mono ?_
  rintro e w1 ⟨g, rfl, hg, ht, hb⟩
  go_wp2_with fail
  go_ret
  exact ⟨g, rfl, hg, ht, hb⟩

theorem run_cutTail {P : Program} {t e size bytes : Nat} {z : Value} (T : SlTy P t e size bytes z) (g len n k : Nat) (hk : 0 < k) (k1 k2 : IntKind) (w : World) :
    (Instr.slice t (.slice (some ⟨g, 0, none⟩) len (n + k)) (some (.int k1 (n : Int))) (some (.int k2 ((n : Int) + (k : Int)))) none).run P w = .ok (.slice (some ⟨g, n * size, none⟩) k k) w := by
  have := run_cut T (some ⟨g, 0, none⟩) len (n + k) n (n + k) k1 k2 (by omega) (Nat.le_refl _) w
  rw [Int.natCast_add] at this
  rw [this]
  have e1 : cutA (some ⟨g, 0, none⟩) (n + k) n size = some ⟨g, n * size, none⟩ := by
    unfold cutA; rw [if_neg (by omega)]; simp [addr_add]
  rw [e1, Nat.add_sub_cancel_left]

set_option maxHeartbeats 1000000 in
theorem left_any (g n c2 : Nat) (a2 : Option Addr) (n2 : Nat) (xs ys : List (BitVec 8)) (m : Int) (w : World) (hn : n = xs.length) (hl : n ≤ 1000000) (h2 : n2 = ys.length) (ht : TwinAt w g (xs.map B8) (.int .u8 m)) (hy : Rd w a2 (ys.map B8)) :
    Calls Tryd.prog 39 #[.slice (some ⟨g, 0, none⟩) n (n + 2), .slice a2 n2 c2, .int .u8 m] w fun e w' => e = .returned (.bool (decide (xs = ys))) ∧ Below w.heap.size w w' := by
  have HC := Lib.hid (same_any (some ⟨g, 0, none⟩) a2 n n2 (n + 2) c2 xs ys w hn h2 (by unfold maxLen; omega) ht.rd hy)
  have HT := Lib.hid ht
  have HN := Lib.hid hn
  clear ht hy hn h2
  by_cases he : xs = ys
  · rw [decide_eq_true he]
    rw [decide_eq_true he] at HC
    clear he
    have hsl := fun wx => run_cutTail slB g n n 2 (by decide) .i64 .i64 wx
    simp only [Nat.mul_one] at hsl
    go_enter Tryd.func39, Tryd.ntmps39
    go_wp2_with fail
    refine HC.out.mono ?_
    rintro e w1 ⟨rfl, hb⟩
    have h1 := (HT.out.below hb)
    have c0 : w1.cell? ⟨g, n, none⟩ = some (.int .u8 m) := by
      unfold TwinAt at h1
      simp only [World.cell?, h1, HN.out]
      simp
    have c1 : w1.cell? ⟨g, n + 1, none⟩ = some (.int .u8 m) := by
      unfold TwinAt at h1
      simp only [World.cell?, h1, HN.out]
      simp
    have HB := Lib.hid hb
    clear hb h1
    go_wp2_with fail
    go_ret
    exact ⟨rfl, HB.out⟩
  · rw [decide_eq_false he]
    rw [decide_eq_false he] at HC
    clear he
    go_enter Tryd.func39, Tryd.ntmps39
    go_wp2_with fail
    refine HC.out.mono ?_
    rintro e w1 ⟨rfl, hb⟩
    go_wp2_with fail
    go_ret
    exact ⟨rfl, hb⟩

theorem leftBytes_any (g n c2 : Nat) (a2 : Option Addr) (n2 : Nat) (xs ys : List (BitVec 8)) (w : World) (hn : n = xs.length) (hl : n ≤ 1000000) (h2 : n2 = ys.length) (ht : TwinAt w g (xs.map B8) (.int .u8 195)) (hy : Rd w a2 (ys.map B8)) :
    Calls Tryd.prog 20 #[.slice (some ⟨g, 0, none⟩) n (n + 2), .slice a2 n2 c2] w fun e w' => e = .returned (.bool (decide (xs = ys))) ∧ Below w.heap.size w w' := by
  have HC := Lib.hid (left_any g n c2 a2 n2 xs ys 195 w hn hl h2 ht hy)
  clear ht hy hn h2
  go_enter Tryd.func20, Tryd.ntmps20
  go_wp2_with fail
  refine HC.out.mono ?_
  rintro e w1 ⟨rfl, hb⟩
  go_wp2_with fail
  go_ret
  exact ⟨rfl, hb⟩
end Go.Proofs.YtlinhcbjljcgbaaDoor

/- The document's answer for layer 15: its functions compute the same sums. -/
namespace Go.Proofs.YtlinhcbjljcgbaaDoor
open Go.RowKit
attribute [local go_sem high] I32_d2 I32_m2 I32_shr bits8_32 bits32_xor I32_not I32_t2 I32_tm I32_m32

set_option maxRecDepth 100000 in
set_option maxHeartbeats 1000000 in
theorem refOf_any (a : Option Addr) (n cap : Nat) (zs : List (BitVec 8)) (w : World) (hn : n = zs.length) (hl : n ≤ maxLen) (hc : Rd w a (zs.map B8)) :
    Calls Tryd.prog 14 #[.slice a n cap] w fun e w' => e = .returned (.int .u32 (I32 (sumOf zs))) ∧ w = w' := by
  subst hn
  unfold maxLen at hl
  have HC := Lib.hid hc; clear hc
  have i0 : (4294967295 : Int) = I32 (~~~ 0#32) := by decide +kernel
  have I0 := Lib.hid i0; clear i0
  go_enter Tryd.func14, Tryd.ntmps14
  go_wp2
  go_loop [3, 4] (fun n i => ∃ k : Nat, k ≤ zs.length ∧ i = .int .i64 k ∧ n = .int .u32 (I32 ((zs.take k).foldl stepB (~~~ 0#32)))) (fun _ i => zs.length - (intOf i).toNat)
  case atStart => exact ⟨0, Nat.zero_le _, rfl, by rw [I0.out]; rfl⟩
  case round =>
    obtain ⟨k, hk, rfl, rfl⟩ := hrel
    by_cases hlt : k < zs.length
    · obtain ⟨b, o, rfl, hcell⟩ := HC.out k (by simpa using hlt)
      simp only [List.getElem_map, B8] at hcell
      generalize hg : (zs.take k).foldl stepB (~~~ 0#32) = c at *
      have HG := Lib.hid hg; clear hg
      obtain ⟨x, hx⟩ : ∃ x, x = zs[k] := ⟨_, rfl⟩
      rw [← hx] at hcell
      have HX := Lib.hid hx; clear hx
      go_wp2_with fail
      go_loop [3, 5] (fun n i => ∃ j : Nat, j ≤ 8 ∧ i = .int .i64 j ∧ n = .int .u32 (I32 (bitsOf c x j))) (fun _ i => 8 - (intOf i).toNat)
      case atStart => exact ⟨0, Nat.zero_le _, rfl, by rw [bitsOf_0]⟩
      case round =>
        obtain ⟨j, hj, rfl, rfl⟩ := hrel
        by_cases hlt8 : j < 8
        · have hs := bitsOf_succ c x j
          generalize hy : bitsOf c x j = y at *
          have HY := Lib.hid hy; clear hy
          cases hbit : (y.getLsbD 0 != ((x.setWidth 32) >>> j).getLsbD 0) with
          | true =>
            have hd := I32_one_ne y ((x.setWidth 32) >>> j)
            rw [hbit] at hd hs
            have HS := Lib.hid hs; clear hs
            have i1 : (3988292384 : Int) = I32 3988292384#32 := by decide +kernel
            have hxor : bits .xor .u32 (I32 (y >>> 1)) 3988292384 = I32 ((y >>> 1) ^^^ 3988292384#32) := by rw [i1, bits32_xor]
            clear i1
            go_wp2_with fail
            go_round
            case rel => exact ⟨j + 1, by omega, by go_num, by rw [HS.out, if_pos rfl]⟩
            case measure => simp [intOf]; omega
          | false =>
            have hd := I32_one_ne y ((x.setWidth 32) >>> j)
            rw [hbit] at hd hs
            have HS := Lib.hid hs; clear hs
            go_wp2_with fail
            go_round
            case rel => exact ⟨j + 1, by omega, by go_num, by rw [HS.out, if_neg (by simp), BitVec.xor_zero, I32_m32]⟩
            case measure => simp [intOf]; omega
        · obtain rfl : j = 8 := by omega
          rw [bitsOf_8]
          generalize hy : stepB c x = y at *
          have HY := Lib.hid hy; clear hy
          go_wp2_with fail
          go_round
          case rel =>
            refine ⟨k + 1, by omega, by go_num, ?_⟩
            rw [List.take_succ_eq_append_getElem hlt, List.foldl_append, HG.out, ← HX.out]
            show _ = Value.int .u32 (I32 (stepB c x))
            rw [HY.out]
          case measure => simp [intOf]; omega
    · obtain rfl : k = zs.length := by omega
      rw [List.take_length]
      generalize hg : zs.foldl stepB (~~~ 0#32) = c
      have HG := Lib.hid hg; clear hg
      go_wp2
      go_ret
      exact ⟨by unfold sumOf more; rw [HG.out]; rfl, rfl⟩

attribute [local go_sem high] I32_t256 I32_t65536 I32_t16777216 bits32_8 I8_m256
set_option maxHeartbeats 1000000 in
theorem refPut_any (a : Option Addr) (n cap : Nat) (zs : List (BitVec 8)) (w : World) (hn : n = zs.length) (hl : n ≤ 100000) (hc : Rd w a (zs.map B8)) :
    Calls Tryd.prog 17 #[.slice a n cap] w fun e w' => ∃ v, e = .returned v ∧ Own w' w.heap.size 5 1 v (n + 4) ((zs ++ four (sumOf zs)).map B8) ∧ Below w.heap.size w w' := by
  have HC := Lib.hid hc; clear hc
  have HN := Lib.hid hn; clear hn
  go_enter Tryd.func17, Tryd.ntmps17
  go_wp2_with fail
  refine (refOf_any a n cap zs _ HN.out (by unfold maxLen; omega) HC.out).mono ?_
  rintro e w' ⟨rfl, rfl⟩
  generalize hs : sumOf zs = s
  have HS := Lib.hid hs; clear hs
  go_wp2_with (first
    | (at_builtin; (refine wpl_append rfl (.const (.slice none 0 0)) (.tmp 7) _ rfl slB w.heap.size (.slice none 0 0) 0 [] rfl (World.ownsRow_nil _ _ _ _) a n cap (zs.map B8) rfl (by have := HN.out; simp; omega) HC.out (oneCell_B8 _) (by unfold maxLen; omega) (by omega) (Nat.le_refl _) ?_); intro v1 w1 hown1 hg1 _)
    | (at_builtin; (refine wpl_append rfl (.tmp 9) (.tmp 24) _ rfl slB w.heap.size v1 (0 + n) ([] ++ zs.map B8) rfl (hown1.alloc _) (some ⟨w1.heap.size, 0, none⟩) 4 4 ((four s).map B8) rfl rfl (Rd.lit w1 ((four s).map B8).toArray _ _) (oneCell_B8 _) (by unfold maxLen; omega) (by omega) (by have := hg1.size; simp; omega) ?_); intro v2 w2 hown2 hg2 _))
  go_ret
  have hb1 : Below w.heap.size w w1 := (Below.refl _ _).grown hg1 (Nat.le_refl _) (by simp [Value.ownBlock])
  have hb2 : Below w.heap.size w w2 := (hb1.alloc hb1.size _).grown hg2 (by have := hb1.size; simp; omega) (fun k hk => (hown1.lt k hk).1)
  refine ⟨v2, rfl, ?_, hb2⟩
  have := Own.ofRow hown2
  simpa [HS.out] using this

set_option maxHeartbeats 1000000 in
theorem refEnds_any (a : Option Addr) (n cap : Nat) (zs : List (BitVec 8)) (w : World) (hn : n = zs.length) (hl : n ≤ 100000) (hcap : n ≤ cap) (hcm : cap ≤ maxLen) (hc : Rd w a (zs.map B8)) :
    Calls Tryd.prog 19 #[.slice a n cap] w fun e w' => e = .returned (.bool (endsOf zs)) ∧ Below w.heap.size w w' := by
  unfold maxLen at hcm
  have HC := Lib.hid hc; clear hc
  have HN := Lib.hid hn; clear hn
  by_cases h4 : n < 4
  · have hd : decide ((n : Int) < 4) = true := by simp; omega
    have he : endsOf zs = false := decide_eq_false (fun h => by have := h.1; have := HN.out; omega)
    rw [he]
    go_enter Tryd.func19, Tryd.ntmps19
    go_wp2
    go_ret
    exact ⟨rfl, Below.refl _ _⟩
  · have hd : decide ((n : Int) < 4) = false := by simp; omega
    have hi1 : (4 : Int) ≤ n := by omega
    have hi2 : (n : Int) - 4 ≤ n := by omega
    have hi3 : (n : Int) - 4 ≤ cap := by omega
    have hwr : IntKind.i64.wrap ((n : Int) - 4) = (n : Int) - 4 := IntWalk.i64_in _ (by omega)
    have hk : ((n - 4 : Nat) : Int) = (n : Int) - 4 := by omega
    have hsl : ∀ wx, (Instr.slice 22 (.slice a n cap) none (some (.int .i64 ((n : Int) - 4))) none).run Tryd.prog wx = .ok (.slice a (n - 4) cap) wx := by
      intro wx
      have := run_cutTo slB a n cap (n - 4) .i64 (by omega) wx
      rwa [hk] at this
    clear hk
    have h0 : Rd w a ((zs.take (n - 4)).map B8) := by rw [List.map_take]; exact HC.out.take _
    have H0 := Lib.hid h0
    clear h0
    go_enter Tryd.func19, Tryd.ntmps19
    go_wp2_with fail
    have hst0 := run_toString w.drew Tryd.underlying22 Tryd.underlying5 Tryd.underlying9 a n cap zs HN.out HC.out.drew
    have heq : endsOf zs = ((strOf (zs.take (n - 4) ++ four (sumOf (zs.take (n - 4))))).toList == (strOf zs).toList) := by
      have hn := HN.out
      subst hn
      unfold endsOf
      rw [Bool.eq_iff_iff, decide_eq_true_iff, beq_iff_eq]
      have h5 : (strOf (zs.take (zs.length - 4) ++ four (sumOf (zs.take (zs.length - 4))))).toList = (strOf zs).toList ↔ zs.take (zs.length - 4) ++ four (sumOf (zs.take (zs.length - 4))) = zs := by
        rw [← strOf_inj]
        constructor
        · intro h; exact strOf_toList_inj h
        · intro h; rw [h]
      rw [h5]
      constructor
      · rintro ⟨_, h⟩
        conv => rhs; rw [← List.take_append_drop (zs.length - 4) zs]
        rw [h]
      · intro h
        refine ⟨by omega, ?_⟩
        have := List.take_append_drop (zs.length - 4) zs
        rw [← h] at this
        conv at this => lhs; rw [h]
        exact List.append_cancel_left this
    have HE := Lib.hid heq
    clear heq
    go_region_with (first
        | (go_at_call 17; refine (refPut_any _ _ _ (zs.take (n - 4)) _ (by have := HN.out; simp; omega) (by omega) (by exact H0.out.drew)).mono ?_; rintro e w1 ⟨v1, rfl, hown1, hb1⟩; obtain ⟨ao1, c1, rfl, hrd1, _, _, _⟩ := hown1.rd; have hcv := run_toString w1 Tryd.underlying22 Tryd.underlying5 Tryd.underlying9 ao1 (n - 4 + 4) c1 (zs.take (n - 4) ++ four (sumOf (zs.take (n - 4)))) (by have := HN.out; simp [four]; omega) hrd1; have hst1 := run_toString w1 Tryd.underlying22 Tryd.underlying5 Tryd.underlying9 a n cap zs HN.out (HC.out.drew.below hb1)))
    all_goals
      go_wp2
      go_ret
      exact ⟨by rw [HE.out]; rfl, (Below.refl _ _).drew.trans (by assumption)⟩
end Go.Proofs.YtlinhcbjljcgbaaDoor

/- Worlds that grow: 'w.ext d' is a world behind w in which nothing of w has changed; calls and regions that only make memory leave such a world, and cells are read through it. -/
namespace Go.Proofs.YtlinhcbjljcgbaaDoor
open Go.RowKit

open Classical in
/-- w, grown to d where d is w grown; else w itself. -/
noncomputable def World.ext (w d : World) : World := if Below w.heap.size w d then d else w
theorem ext_below (w d : World) : Below w.heap.size w (World.ext w d) := by
  unfold World.ext
  split
  · assumption
  · exact Below.refl _ _
theorem ext_of {w w' : World} (h : Below w.heap.size w w') : ∃ d, w' = World.ext w d := ⟨w', by unfold World.ext; rw [if_pos h]⟩
theorem ext_size (w d : World) : w.heap.size ≤ (World.ext w d).heap.size := (ext_below w d).size
theorem ext_block (w d : World) {k : Nat} (h : k < w.heap.size) : (World.ext w d).heap[k]? = w.heap[k]? := (ext_below w d).block k h
/-- How many blocks were made on the way from w. -/
noncomputable def World.extN (w d : World) : Nat := (World.ext w d).heap.size - w.heap.size
@[go_sem high] theorem size_ext (w d : World) : (World.ext w d).heap.size = w.heap.size + World.extN w d := by
  have := ext_size w d; unfold World.extN; omega
noncomputable def World.extCell (w d : World) (a : Addr) : Option Value := (World.ext w d).cell? a
noncomputable def World.extFrozen (w d : World) (a : Addr) : Bool := (World.ext w d).frozen? a
@[go_sem high] theorem ext_cell (w d : World) (n i : Nat) (s : Option Nat) : (World.ext w d).cell? ⟨n, i, s⟩ = if n < w.heap.size then w.cell? ⟨n, i, s⟩ else World.extCell w d ⟨n, i, s⟩ := by
  split
  · rename_i h; exact (ext_below w d).cell (p := ⟨n, i, s⟩) h
  · rfl
@[go_sem high] theorem ext_frozen (w d : World) (n i : Nat) (s : Option Nat) : (World.ext w d).frozen? ⟨n, i, s⟩ = if n < w.heap.size then w.frozen? ⟨n, i, s⟩ else World.extFrozen w d ⟨n, i, s⟩ := by
  split
  · rename_i h; exact (ext_below w d).frozen (p := ⟨n, i, s⟩) h
  · rfl
@[go_sem high] theorem alloc_cell (w : World) (c : Array Value) (t : TypeId) (f : Nat × Nat) (n i : Nat) : (w.alloc (.cells c t f)).cell? ⟨n, i, none⟩ = if n = w.heap.size then c[i]? else w.cell? ⟨n, i, none⟩ := by
  split
  · rename_i h
    subst h
    simp only [World.cell?, heap_alloc_new]
    simp
  · rename_i h; exact World.cell?_alloc_old _ _ _ h
@[go_sem high] theorem alloc_frozen (w : World) (c : Array Value) (t : TypeId) (n i : Nat) : (w.alloc (.cells c t)).frozen? ⟨n, i, none⟩ = if n = w.heap.size then false else w.frozen? ⟨n, i, none⟩ := by
  split
  · rename_i h
    subst h
    exact frozen_of_row _ _ _ _ _ (heap_alloc_new w _)
  · rename_i h; exact World.frozen?_alloc_old _ _ _ h

/-- Nothing of w has changed in w'. -/
def Ext (w w' : World) : Prop := Below w.heap.size w w'
theorem Ext.refl (w : World) : Ext w w := Below.refl _ _
theorem Ext.alloc {w w' : World} (h : Ext w w') (o : Obj) : Ext w (w'.alloc o) := Below.alloc h (Below.size h) o
theorem Ext.drew {w w' : World} (h : Ext w w') : Ext w w'.drew := Below.drew h
theorem Ext.drewN {w w' : World} (h : Ext w w') (n : Nat) : Ext w (w'.drewN n) := ⟨h.os, h.tape, h.output, h.size, h.block⟩
theorem Ext.trans {a b c : World} (h : Ext a b) (k : Ext b c) : Ext a c := Below.trans h (Below.mono k (Below.size h))
theorem Ext.ext {w w' : World} (h : Ext w w') (d : World) : Ext w (World.ext w' d) := h.trans (ext_below w' d)
theorem Ext.setCell {w w' : World} (h : Ext w w') {p : Addr} (hp : w.heap.size ≤ p.block) (u : Value) : Ext w (w'.setCell p u) := Below.setCell h hp u
theorem Ext.out {w w' : World} (h : Ext w w') : ∃ d, w' = World.ext w d := ext_of h
theorem Ext.rd {w w' : World} {a : Option Addr} {xs : List Value} (h : Ext w w') (k : Rd w a xs) : Rd w' a xs := k.below h

/-- A callee that only makes memory, met in the midst of a region. -/
theorem Calls.ext_of {P : Program} {f : FuncId} {args : Array Value} {W d : World} {v : Value}
    (h : Calls P f args (World.ext W d) fun e w' => e = .returned v ∧ Below (World.ext W d).heap.size (World.ext W d) w') : Calls P f args (World.ext W d) fun e w'' => e = .returned v ∧ ∃ m, w'' = World.ext W m :=
  h.mono fun _ _ ⟨he, hb⟩ => ⟨he, _root_.Go.Proofs.YtlinhcbjljcgbaaDoor.ext_of (((Ext.refl W).ext d).trans hb)⟩
theorem Calls.ext_same {P : Program} {f : FuncId} {args : Array Value} {W d : World} {v : Value}
    (h : Calls P f args (World.ext W d) fun e w' => e = .returned v ∧ w' = World.ext W d) : Calls P f args (World.ext W d) fun e w'' => e = .returned v ∧ ∃ m, w'' = World.ext W m :=
  h.mono fun _ _ ⟨he, hb⟩ => ⟨he, d, hb⟩
/-- A region that draws its order, walked once in the order of the text, in whatever world behind W. -/
theorem wp_region_ext {P : Program} {id : Nat} {Q : Exit → Act → World → Prop} {a : Act} {W : World} {l : List Oper} (hm : P.follows .mixedOrders = true) (hB : Region.lexB .any l.toArray = true)
    (h : wpQuiet P l.toArray (fun w' => ∃ d, w' = World.ext W d) (fun a' => ∀ w', (∃ d, w' = World.ext W d) → Q .normal a' w') l a) : (Code.region id l.toArray true).wp P Q a W :=
  wp_region_quiet (C := fun w' => ∃ d, w' = World.ext W d) hm hB (ext_of (Below.refl _ _).drew) (by simpa using h)

/-- Called with these arguments, in whatever world, it answers v and only makes memory. -/
def Ans (f : FuncId) (args : Array Value) (v : Value) : Prop := ∀ w, Calls Tryd.prog f args w fun e w' => e = .returned v ∧ Below w.heap.size w w'
theorem Ans.same {f : FuncId} {args : Array Value} {v : Value} (h : ∀ w, Calls Tryd.prog f args w fun e w' => e = .returned v ∧ w' = w) : Ans f args v := fun w => (h w).mono fun _ _ ⟨he, hw⟩ => ⟨he, hw ▸ Below.refl _ _⟩
theorem Ans.same' {f : FuncId} {args : Array Value} {v : Value} (h : ∀ w, Calls Tryd.prog f args w fun e w' => e = .returned v ∧ w = w') : Ans f args v := fun w => (h w).mono fun _ _ ⟨he, hw⟩ => ⟨he, hw ▸ Below.refl _ _⟩
theorem Ans.to {f : FuncId} {args : Array Value} {v v' : Value} (h : Ans f args v) (e : v = v') : Ans f args v' := e ▸ h
theorem Ans.call {f : FuncId} {args : Array Value} {v : Value} {w : World} {R : Ending → World → Prop} (h : Ans f args v) (k : ∀ d, R (.returned v) (World.ext w d)) : Calls Tryd.prog f args w R :=
  (h w).mono fun e w' ⟨he, hb⟩ => by obtain ⟨d, rfl⟩ := ext_of hb; rw [he]; exact k d
theorem Ans.quiet {f : FuncId} {args : Array Value} {v : Value} {W d : World} (h : Ans f args v) : Calls Tryd.prog f args (World.ext W d) fun e w'' => e = .returned v ∧ ∃ m, w'' = World.ext W m := Calls.ext_of (h _)
end Go.Proofs.YtlinhcbjljcgbaaDoor

/- A region that draws its order, whose first n operations only read or call what only makes memory, and whose last ones come in one order, behind all others: one walk in the order of the text. -/
namespace Go.Proofs.YtlinhcbjljcgbaaDoor
open Go.RowKit

section
variable {P : Program} {ops : Array Oper} {md : Region.Mode} {C : World → Prop}
/-- The first n operations in whatever order, then L. -/
def HeadAny (P : Program) (md : Region.Mode) (ops : Array Oper) (C : World → Prop) (n : Nat) (L : Array Bool → Act → Prop) : Nat → Array Bool → Act → Prop
  | 0, listed, a => L listed a
  | f + 1, listed, a => Region.ready md ops listed ≠ [] ∧ ∀ i ∈ Region.ready md ops listed, i < n ∧ qOp P ops C i (HeadAny P md ops C n L f (listed.setIfInBounds i true)) a
theorem HeadAny.any {n g : Nat} {L : Array Bool → Act → Prop} {Q : Exit → Act → World → Prop} (hL : ∀ listed a w, C w → L listed a → wpAny P md ops Q g listed a w) :
    ∀ (f : Nat) (listed : Array Bool) (a : Act) (w : World), C w → HeadAny P md ops C n L f listed a → wpAny P md ops Q (f + g) listed a w := by
  intro f
  induction f with
  | zero => intro listed a w hw h; rw [Nat.zero_add]; exact hL _ _ _ hw h
  | succ f ih =>
    intro listed a w hw h
    rw [show f + 1 + g = (f + g) + 1 by omega]
    exact ⟨fun h0 => absurd h0 h.1, fun i hi => wpOp_of_qOp hw (fun a' w' hw' h' => ih _ a' w' hw' h') (h.2 i hi).2⟩
theorem HeadAny.first {n i : Nat} {oi : Oper} {v : Value} {L : Array Bool → Act → Prop} (hi : ops[i]? = some oi) (hsel : ∀ (j : Nat) (o : Oper) cs b, ops[j]? = some o → o.op ≠ .select cs b)
    (hs : Region.sinkB md ops n = true) (hc : Region.chainB md ops n = true) (hn : n < ops.size) (hin : i < n) (hdone : ∀ listed a, L listed a → ∀ j ∈ Region.ready md ops listed, n ≤ j) :
    ∀ (f : Nat) (listed : Array Bool) (a : Act), HeadInv md ops n listed →
      (∀ j oj, ops[j]? = some oj → j ≠ i → listed.getD j true = false → (∀ e ∈ oj.after, Region.binds md e = true → e.on ≠ i) → oi.apart ops oj = true) →
      i ∈ Region.ready md ops listed → YieldsIn P ops C oi v a → HeadAny P md ops C n L f (listed.setIfInBounds i true) (a.put oi.dst v) → HeadAny P md ops C n L (f + 1) listed a := by
  intro f
  induction f with
  | zero =>
    intro listed a inv _ hr hy H
    refine ⟨fun h => by rw [h] at hr; simp at hr, fun j hj => ?_⟩
    have hjn : j < n := Nat.lt_of_not_le fun h => tail_waits hs hc hn inv _ i rfl hin (mem_ready.1 hr).1 j h hj
    refine ⟨hjn, ?_⟩
    by_cases e : j = i
    · subst e; exact hy.qOp hi H
    · have := hdone _ _ H j (ready_mono hj e)
      omega
  | succ f ih =>
    intro listed a inv hfree hr hy H
    have hun := (mem_ready.1 hr).1
    refine ⟨fun h => by rw [h] at hr; simp at hr, fun j hj => ?_⟩
    have hjn : j < n := Nat.lt_of_not_le fun h => tail_waits hs hc hn inv _ i rfl hin hun j h hj
    refine ⟨hjn, ?_⟩
    by_cases e : j = i
    · subst e; exact hy.qOp hi H
    · obtain ⟨hjun, oj, hoj, hall⟩ := mem_ready.1 hj
      have hnot : ∀ e ∈ oj.after, Region.binds md e = true → e.on ≠ i := fun e he hb heq => by
        have := hall e he hb
        rw [heq, getD_both hun] at this
        cases this
      refine qOp_mono (fun a' h3 => ih (listed.setIfInBounds j true) a' (inv.set hj hjn) (fun k ok hk hki hun' hno => ?_) (ready_mono hr (Ne.symm e)) h3.1 ?_)
        (qOp_put hoj (hfree j oj hoj e hjun hnot) (fun cs b => hsel i oi cs b hi) (fun cs b => hsel j oj cs b hoj) hy (H.2 j (ready_mono hj e)).2)
      · refine hfree k ok hk hki ?_ hno
        by_cases hjk : j = k
        · subst hjk; exact hjun
        · rwa [getD_set_ne true hjk] at hun'
      · rw [Array.setIfInBounds_comm _ _ e]; exact h3.2
theorem HeadAny.lex {n g : Nat} {K : Act → Prop} (hsel : Region.noSelect ops = true) (hs : Region.sinkB md ops n = true) (hc : Region.chainB md ops n = true) (hn : n < ops.size) :
    ∀ (l : List Oper) (k : Nat) (listed : Array Bool) (a : Act), (∀ j, j < l.length → l[j]? = ops[k + j]?) → k + l.length = n → HeadInv md ops n listed →
    Region.lexHead md ops g l.length k listed = true → wpQuiet P ops C K l a → HeadAny P md ops C n (fun listed' a' => Region.seqB md ops g n listed' = true ∧ K a') l.length listed a := by
  intro l
  induction l with
  | nil =>
    intro k listed a _ hk _ hB h
    obtain rfl : k = n := by simpa using hk
    exact ⟨by simpa [Region.lexHead] using hB, h⟩
  | cons o l ih =>
    intro k listed a hl hk inv hB h
    have h0 : ops[k]? = some o := by simpa using (hl 0 (by simp)).symm
    simp only [List.length_cons, Region.lexHead, Bool.and_eq_true] at hB
    have hkn : k < n := by simp only [List.length_cons] at hk; omega
    have hr : k ∈ Region.ready md ops listed := by simpa using hB.1.1
    obtain ⟨v, hy, hK⟩ := yieldsIn_of_qOp h0 (show qOp P ops C k (wpQuiet P ops C K l) a by unfold qOp; simp only [h0]; exact h)
    exact HeadAny.first h0 (Region.noSelect_spec hsel) hs hc hn hkn (fun _ _ hL => seqB_ready hL.1) l.length listed a inv (Region.free_spec h0 hB.1.2) hr hy
      (ih (k + 1) _ _ (fun j hj => by have := hl (j + 1) (by simp; omega); simpa [Nat.add_assoc, Nat.add_comm 1 j] using this) (by simp only [List.length_cons] at hk; omega) (inv.set hr hkn) hB.2 hK)
/-- The walk: the first n operations quiet in C, the others one behind the other in whatever world of C. -/
theorem wp_region_tail {id : Nat} {Q : Exit → Act → World → Prop} {a : Act} {w : World} {l : List Oper} (n : Nat) (hm : P.follows .mixedOrders = true) (hB : Region.lexTailB .any l.toArray n = true) (hC : C { w with drawn := w.drawn + 1 })
    (h : wpQuiet P l.toArray C (fun a' => ∀ w', C w' → wpList P l.toArray Q (l.drop n) a' w') (l.take n) a) : (Code.region id l.toArray true).wp P Q a w := by
  simp only [Region.lexTailB, Bool.and_eq_true, decide_eq_true_eq] at hB
  obtain ⟨⟨⟨⟨hsel, hn⟩, hs⟩, hc⟩, hlex⟩ := hB
  have hn' : n < l.length := by simpa using hn
  have htl : (l.take n).length = n := by simp; omega
  have hdl : (l.drop n).length = l.toArray.size - n := by simp
  have H := HeadAny.lex (C := C) (md := .any) (g := l.toArray.size - n) hsel hs hc hn (l.take n) 0 (Array.replicate l.toArray.size false) a (fun j hj => by
    have hj' : j < n := by rw [htl] at hj; exact hj
    simp [hj']) (by simpa using htl) ⟨by simp, fun j oj _ hl => (by rw [getD_replicate_false] at hl; cases hl), fun t _ ht => getD_in (by simpa using ht) (getD_replicate_false _ _)⟩ (by rw [htl]; exact hlex) h
  refine wp_region_any hm ?_
  have := HeadAny.any (Q := Q) (g := l.toArray.size - n) (fun listed a' w' hw' hL => by
    have := wpAny_of_seq (md := .any) (Q' := Q) (l.drop n) n listed a' w' (fun j => by simp [List.getElem?_drop]) (by rw [hdl]; exact hL.1) (hL.2 w' hw')
    rwa [hdl] at this) _ _ _ _ hC H
  rwa [htl, show n + (l.toArray.size - n) = l.toArray.size by omega] at this
end
theorem wp_region_ext_tail {P : Program} {id : Nat} {Q : Exit → Act → World → Prop} {a : Act} {W : World} {l : List Oper} (n : Nat) (hm : P.follows .mixedOrders = true) (hB : Region.lexTailB .any l.toArray n = true)
    (h : wpQuiet P l.toArray (fun w' => ∃ d, w' = World.ext W d) (fun a' => ∀ w', (∃ d, w' = World.ext W d) → wpList P l.toArray Q (l.drop n) a' w') (l.take n) a) : (Code.region id l.toArray true).wp P Q a W :=
  wp_region_tail (C := fun w' => ∃ d, w' = World.ext W d) n hm hB (ext_of (Below.refl _ _).drew) h
end Go.Proofs.YtlinhcbjljcgbaaDoor
