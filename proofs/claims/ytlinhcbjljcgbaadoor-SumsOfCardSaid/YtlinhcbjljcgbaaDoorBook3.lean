/- A book of rows in memory of their own: Apart answers true. -/
import Derived.Test.YtlinhcbjljcgbaaDoorBook2
namespace Go.Proofs.YtlinhcbjljcgbaaDoor
open Go.RowKit

/-- A page's list: where it begins, its length, its room. -/
structure Pg where
  a : Option Addr
  n : Nat
  c : Nat
def Pg.val (p : Pg) (k : Nat) : Value := .agg #[.slice p.a p.n p.c, .int .u8 ((k : Int) + 1), .int .u8 (bits .xor .u8 ((k : Int) + 1) 128)]
def Pg.blk (p : Pg) : Option Nat := p.a.map (·.block)
/-- The k-th page's list lies in a block of its own; d1: it has its mark; d2: its room has the other one. -/
def PgSt (w : World) (p : Pg) (k : Nat) (d1 d2 : Prop) : Prop :=
  p.n ≤ p.c ∧ p.c ≤ maxLen ∧ ((p.a = none ∧ p.c = 0) ∨ ∃ g off cur, p.a = some ⟨g, off, none⟩ ∧ w.heap[g]? = some (.cells cur 5 (0, 0)) ∧ off + p.c ≤ cur.size ∧
    (d1 → ∀ i, i < p.n → cur[off + i]? = some (.int .u8 ((k : Int) + 1))) ∧ (d2 → ∀ i, p.n ≤ i → i < p.c → cur[off + i]? = some (.int .u8 (bits .xor .u8 ((k : Int) + 1) 128))))
theorem PgSt.same {w w' : World} {p : Pg} {k : Nat} {d1 d2 : Prop} (h : PgSt w p k d1 d2) (hb : ∀ g, p.blk = some g → w'.heap[g]? = w.heap[g]?) : PgSt w' p k d1 d2 := by
  obtain ⟨h1, h2, h3⟩ := h
  refine ⟨h1, h2, ?_⟩
  rcases h3 with h3 | ⟨g, off, cur, e, hg, r⟩
  · exact .inl h3
  · exact .inr ⟨g, off, cur, e, by rw [hb g (by simp [Pg.blk, e])]; exact hg, r⟩
theorem PgSt.lt {w : World} {p : Pg} {k : Nat} {d1 d2 : Prop} (h : PgSt w p k d1 d2) : ∀ g, p.blk = some g → g < w.heap.size := by
  intro g hg
  obtain ⟨_, _, h3⟩ := h
  rcases h3 with ⟨e, _⟩ | ⟨g', off, cur, e, hh, _⟩
  · simp [Pg.blk, e] at hg
  · simp [Pg.blk, e] at hg
    subst hg
    exact (Array.getElem?_eq_some_iff.1 hh).1
theorem PgSt.imp {w : World} {p : Pg} {k : Nat} {d1 d2 e1 e2 : Prop} (h : PgSt w p k d1 d2) (h1 : e1 → d1) (h2 : e2 → d2) : PgSt w p k e1 e2 := by
  obtain ⟨a1, a2, h3⟩ := h
  refine ⟨a1, a2, ?_⟩
  rcases h3 with h3 | ⟨g, off, cur, e, hg, hs, r1, r2⟩
  · exact .inl h3
  · exact .inr ⟨g, off, cur, e, hg, hs, fun h => r1 (h1 h), fun h => r2 (h2 h)⟩

theorem writeNil (m b : Int) (w : World) :
    Calls Tryd.prog 73 #[.agg #[.slice none 0 0, .int .u8 m, .int .u8 b]] w fun e w' => e = .returned (.tuple #[]) ∧ Below w.heap.size w w' := by
  go_enter Tryd.func73, Tryd.ntmps73
  go_wp2
  go_rounds 1
  go_end0
  exact ⟨rfl, (Below.refl _ _).alloc (Nat.le_refl _) _⟩
theorem writeBehindNil (m b : Int) (w : World) :
    Calls Tryd.prog 74 #[.agg #[.slice none 0 0, .int .u8 m, .int .u8 b]] w fun e w' => e = .returned (.tuple #[]) ∧ Below w.heap.size w w' := by
  go_enter Tryd.func74, Tryd.ntmps74
  go_wp2
  go_rounds 1
  go_end0
  exact ⟨rfl, (Below.refl _ _).alloc (Nat.le_refl _) _⟩
theorem standsNil (m b : Int) (w : World) :
    Calls Tryd.prog 72 #[.agg #[.slice none 0 0, .int .u8 m, .int .u8 b]] w fun e w' => e = .returned (.bool true) ∧ Below w.heap.size w w' := by
  go_enter Tryd.func72, Tryd.ntmps72
  go_wp2
  go_rounds 1
  go_ret
  exact ⟨rfl, (Below.refl _ _).alloc (Nat.le_refl _) _⟩

theorem writeP (p : Pg) (k : Nat) (d1 : Prop) (w : World) (h : PgSt w p k d1 False) :
    Calls Tryd.prog 73 #[p.val k] w fun e w' => e = .returned (.tuple #[]) ∧ PgSt w' p k True False ∧ w.grownBy w' p.blk := by
  obtain ⟨a, n, c⟩ := p
  obtain ⟨h1, h2, h3⟩ := h
  simp only at h1 h2 h3
  rcases h3 with ⟨rfl, rfl⟩ | ⟨g, off, cur, rfl, hg, hs, _, _⟩
  · obtain rfl : n = 0 := by omega
    refine (writeNil _ _ w).mono ?_
    rintro e w' ⟨rfl, hb⟩
    exact ⟨rfl, ⟨h1, h2, .inl ⟨rfl, rfl⟩⟩, grownBy_below hb⟩
  · refine (write_any g off n c _ _ cur w hg hs h1 h2).mono ?_
    rintro e w' ⟨rfl, cur', hg', hf, hgr⟩
    refine ⟨rfl, ⟨h1, h2, .inr ⟨g, off, cur', rfl, hg', by rw [hf.size]; exact hs, fun _ i hi => ?_, fun h => h.elim⟩⟩, hgr⟩
    rw [hf.at_, if_pos (by simp only at hi; omega)]
theorem writeBehindP (p : Pg) (k : Nat) (d2 : Prop) (w : World) (h : PgSt w p k True d2) :
    Calls Tryd.prog 74 #[p.val k] w fun e w' => e = .returned (.tuple #[]) ∧ PgSt w' p k True True ∧ w.grownBy w' p.blk := by
  obtain ⟨a, n, c⟩ := p
  obtain ⟨h1, h2, h3⟩ := h
  simp only at h1 h2 h3
  rcases h3 with ⟨rfl, rfl⟩ | ⟨g, off, cur, rfl, hg, hs, hm, _⟩
  · obtain rfl : n = 0 := by omega
    refine (writeBehindNil _ _ w).mono ?_
    rintro e w' ⟨rfl, hb⟩
    exact ⟨rfl, ⟨h1, h2, .inl ⟨rfl, rfl⟩⟩, grownBy_below hb⟩
  · refine (writeBehind_any g off n c _ _ cur w hg hs h1 h2).mono ?_
    rintro e w' ⟨rfl, cur', hg', hf, hgr⟩
    refine ⟨rfl, ⟨h1, h2, .inr ⟨g, off, cur', rfl, hg', by rw [hf.size]; exact hs, fun _ i hi => ?_, fun _ i hi hi' => ?_⟩⟩, hgr⟩
    · rw [hf.at_, if_neg (by simp only at hi; omega)]; exact hm trivial i hi
    · rw [hf.at_, if_pos (by simp only at hi hi'; omega)]
theorem standsP (p : Pg) (k : Nat) (w : World) (h : PgSt w p k True True) :
    Calls Tryd.prog 72 #[p.val k] w fun e w' => e = .returned (.bool true) ∧ Below w.heap.size w w' := by
  obtain ⟨a, n, c⟩ := p
  obtain ⟨h1, h2, h3⟩ := h
  simp only at h1 h2 h3
  rcases h3 with ⟨rfl, rfl⟩ | ⟨g, off, cur, rfl, hg, hs, hm, hm2⟩
  · obtain rfl : n = 0 := by omega
    exact standsNil _ _ w
  · exact stands_any g off n c _ _ cur w hg hs h1 h2 (hm trivial) (hm2 trivial)

/-- The pages of a book stand apart from each other and from the book. -/
structure Pages (w : World) (base kb : Nat) (pv : Value) (ps : List Pg) (d1 d2 : Nat → Prop) : Prop where
  st : ∀ k (h : k < ps.length), PgSt w ps[k] k (d1 k) (d2 k)
  ge : ∀ k (h : k < ps.length), ∀ g, ps[k].blk = some g → base ≤ g ∧ g ≠ kb ∧ pv.ownBlock ≠ some g
  apart : ∀ i j (hi : i < ps.length) (hj : j < ps.length), i ≠ j → ∀ g, ps[i].blk = some g → ps[j].blk ≠ some g
theorem Pages.step {w w' : World} {base kb : Nat} {pv : Value} {ps : List Pg} {d1 d2 e1 e2 : Nat → Prop} (h : Pages w base kb pv ps d1 d2) (k : Nat) (hk : k < ps.length)
    (hg : w.grownBy w' ps[k].blk) (hst : PgSt w' ps[k] k (e1 k) (e2 k)) (h1 : ∀ j, j ≠ k → e1 j → d1 j) (h2 : ∀ j, j ≠ k → e2 j → d2 j) : Pages w' base kb pv ps e1 e2 := by
  refine ⟨fun j hj => ?_, h.ge, h.apart⟩
  by_cases e : j = k
  · subst e; exact hst
  · refine ((h.st j hj).same fun g hgb => ?_).imp (h1 j e) (h2 j e)
    exact hg.block g ((h.st j hj).lt g hgb) (fun e' => h.apart j k hj hk e g hgb e'.symm)
theorem Pages.below {w w' : World} {base kb : Nat} {pv : Value} {ps : List Pg} {d1 d2 : Nat → Prop} (h : Pages w base kb pv ps d1 d2) (hb : Below w.heap.size w w') : Pages w' base kb pv ps d1 d2 :=
  ⟨fun j hj => (h.st j hj).same fun g hg => hb.block g ((h.st j hj).lt g hg), h.ge, h.apart⟩
def pageVals (ps : List Pg) : List Value := ps.mapIdx fun k p => .iface 61 (p.val k)
theorem BookAt.grown {w w' : World} {base kb : Nat} {pv : Value} {vs : List Value} {r : Option Nat} (h : BookAt w base kb pv vs) (hg : w.grownBy w' r) (h1 : r ≠ some kb) (h2 : ∀ g, r = some g → pv.ownBlock ≠ some g) : BookAt w' base kb pv vs :=
  h.kept fun k hk ho => hg.block k hk (fun e => by
    rcases ho with rfl | ho
    · exact h1 e.symm
    · exact h2 k e.symm ho)

theorem BookAt.rd {w : World} {base kb n c : Nat} {a : Option Addr} {vs : List Value} (h : BookAt w base kb (.slice a n c) vs) : Rd w a vs := by
  obtain ⟨a', c', e, hr, _⟩ := h.form
  simp only [Value.slice.injEq] at e
  rw [e.1]; exact hr

set_option maxRecDepth 100000 in
set_option maxHeartbeats 4000000 in
theorem apart_any (base kb : Nat) (pv : Value) (ps : List Pg) (w : World) (hbk : BookAt w base kb pv (pageVals ps)) (hps : Pages w base kb pv ps (fun _ => False) (fun _ => False)) (hn : ps.length ≤ 120) (hbs : base ≤ w.heap.size) :
    Calls Tryd.prog 22 #[.pointer (some ⟨kb, 0, none⟩)] w fun e w' => e = .returned (.bool true) ∧ Below base w w' := by
  have hvl : (pageVals ps).length = ps.length := by simp [pageVals]
  have hcell := hbk.cell
  obtain ⟨pa, pc, rfl, hprd, hpc, hpm⟩ := hbk.form
  rw [hvl] at hbk hps hcell hpc
  have HBK := Lib.hid hbk
  have HPS := Lib.hid hps
  clear hbk hps hprd
  generalize hN : ps.length = N at *
  have HV := Lib.hid hvl
  have HN := Lib.hid hN
  clear hN hvl
  go_enter Tryd.func22, Tryd.ntmps22
  go_wp2
  clear hcell
  go_loopw [3] (fun i wr => ∃ k : Nat, k ≤ N ∧ i = .int .i64 k ∧ BookAt wr base kb (.slice pa N pc) (pageVals ps) ∧ Pages wr base kb (.slice pa N pc) ps (fun j => j < k) (fun _ => False) ∧ (Below base w wr ∧ base ≤ wr.heap.size)) (fun i _ => N - (intOf i).toNat)
  case atStart => exact ⟨0, Nat.zero_le _, rfl, HBK.out, ⟨fun k hk => (HPS.out.st k hk).imp (by omega) (fun h => h), HPS.out.ge, HPS.out.apart⟩, Below.refl _ _, hbs⟩
  case round =>
    clear HBK HPS
    obtain ⟨k, hk, rfl, hbk, hps, hbl⟩ := hrel
    have hcell := hbk.cell
    have hprd := hbk.rd
    have HBK := Lib.hid hbk
    have HPS := Lib.hid hps
    have HBL := Lib.hid hbl
    clear hbk hps hbl
    by_cases hlt : k < N
    · have hlt' : k < ps.length := by have := HN.out; omega
      obtain ⟨pb, po, rfl, hpcell⟩ := hprd k (by have := HV.out; omega)
      have e : (pageVals ps)[k]'(by have := HV.out; omega) = .iface 61 (ps[k].val k) := by simp [pageVals]
      rw [e] at hpcell
      clear e hprd
      go_wp2_with fail
      refine (writeP ps[k] k _ wr (HPS.out.st k hlt')).mono ?_
      rintro e w1 ⟨rfl, hst, hgr⟩
      have hbk1 := HBK.out.grown hgr (fun e => (HPS.out.ge k hlt' _ e).2.1 rfl) (fun g e => (HPS.out.ge k hlt' g e).2.2)
      have hps1 := HPS.out.step (e1 := fun j => j < k + 1) (e2 := fun _ => False) k hlt' hgr (hst.imp (fun _ => trivial) (fun h => h)) (fun j hj h => by omega) (fun j hj h => h)
      have hbl1 := HBL.out.1.grown hgr HBL.out.2 (fun g e => (HPS.out.ge k hlt' g e).1)
      have HBK1 := Lib.hid hbk1
      have HPS1 := Lib.hid hps1
      have HBL1 := Lib.hid (show Below base w w1 ∧ base ≤ w1.heap.size from ⟨hbl1, Nat.le_trans HBL.out.2 hgr.size⟩)
      clear hbk1 hps1 hbl1 hst hgr
      go_wp2_with fail
      go_roundw
      case rel => exact ⟨k + 1, by omega, by go_num, HBK1.out, HPS1.out, HBL1.out⟩
      case measure => simp [intOf]; omega
    · obtain rfl : N = k := by omega
      clear hprd
      go_wp2_with fail
      go_loopw [4] (fun i wr => ∃ k : Nat, k ≤ N ∧ i = .int .i64 k ∧ BookAt wr base kb (.slice pa N pc) (pageVals ps) ∧ Pages wr base kb (.slice pa N pc) ps (fun j => j < N) (fun j => j < k) ∧ (Below base w wr ∧ base ≤ wr.heap.size)) (fun i _ => N - (intOf i).toNat)
      case atStart => exact ⟨0, Nat.zero_le _, rfl, HBK.out, ⟨fun k hk => (HPS.out.st k hk).imp (fun h => h) (by omega), HPS.out.ge, HPS.out.apart⟩, HBL.out⟩
      case round =>
        clear HBK HPS HBL hcell
        obtain ⟨k, hk, rfl, hbk, hps, hbl⟩ := hrel
        have hcell := hbk.cell
        have hprd := hbk.rd
        have HBK := Lib.hid hbk
        have HPS := Lib.hid hps
        have HBL := Lib.hid hbl
        clear hbk hps hbl
        by_cases hlt : k < N
        · have hlt' : k < ps.length := by have := HN.out; omega
          obtain ⟨pb, po, rfl, hpcell⟩ := hprd k (by have := HV.out; omega)
          have e : (pageVals ps)[k]'(by have := HV.out; omega) = .iface 61 (ps[k].val k) := by simp [pageVals]
          rw [e] at hpcell
          clear e hprd
          go_wp2_with fail
          refine (writeBehindP ps[k] k _ wr ((HPS.out.st k hlt').imp (fun _ => by have := HN.out; omega) (fun h => h))).mono ?_
          rintro e w1 ⟨rfl, hst, hgr⟩
          have hbk1 := HBK.out.grown hgr (fun e => (HPS.out.ge k hlt' _ e).2.1 rfl) (fun g e => (HPS.out.ge k hlt' g e).2.2)
          have hps1 := HPS.out.step (e1 := fun j => j < N) (e2 := fun j => j < k + 1) k hlt' hgr (hst.imp (fun _ => trivial) (fun _ => trivial)) (fun j hj h => h) (fun j hj h => by omega)
          have hbl1 := HBL.out.1.grown hgr HBL.out.2 (fun g e => (HPS.out.ge k hlt' g e).1)
          have HBK1 := Lib.hid hbk1
          have HPS1 := Lib.hid hps1
          have HBL1 := Lib.hid (show Below base w w1 ∧ base ≤ w1.heap.size from ⟨hbl1, Nat.le_trans HBL.out.2 hgr.size⟩)
          clear hbk1 hps1 hbl1 hst hgr
          go_wp2_with fail
          go_roundw
          case rel => exact ⟨k + 1, by omega, by go_num, HBK1.out, HPS1.out, HBL1.out⟩
          case measure => simp [intOf]; omega
        · obtain rfl : N = k := by omega
          clear hprd
          go_wp2_with fail
          go_loopw [5] (fun i wr => ∃ k : Nat, k ≤ N ∧ i = .int .i64 k ∧ BookAt wr base kb (.slice pa N pc) (pageVals ps) ∧ Pages wr base kb (.slice pa N pc) ps (fun j => j < N) (fun j => j < N) ∧ (Below base w wr ∧ base ≤ wr.heap.size)) (fun i _ => N - (intOf i).toNat)
          case atStart => exact ⟨0, Nat.zero_le _, rfl, HBK.out, HPS.out, HBL.out⟩
          case round =>
            clear HBK HPS HBL hcell
            obtain ⟨k, hk, rfl, hbk, hps, hbl⟩ := hrel
            have hcell := hbk.cell
            have hprd := hbk.rd
            have HBK := Lib.hid hbk
            have HPS := Lib.hid hps
            have HBL := Lib.hid hbl
            clear hbk hps hbl
            by_cases hlt : k < N
            · have hlt' : k < ps.length := by have := HN.out; omega
              obtain ⟨pb, po, rfl, hpcell⟩ := hprd k (by have := HV.out; omega)
              have e : (pageVals ps)[k]'(by have := HV.out; omega) = .iface 61 (ps[k].val k) := by simp [pageVals]
              rw [e] at hpcell
              clear e hprd
              go_wp2_with fail
              refine (standsP ps[k] k wr ((HPS.out.st k hlt').imp (fun _ => by have := HN.out; omega) (fun _ => by have := HN.out; omega))).mono ?_
              rintro e w1 ⟨rfl, hb⟩
              have HBK1 := Lib.hid (HBK.out.below hb)
              have HPS1 := Lib.hid (HPS.out.below hb)
              have HBL1 := Lib.hid (show Below base w w1 ∧ base ≤ w1.heap.size from ⟨HBL.out.1.trans (hb.mono HBL.out.2), Nat.le_trans HBL.out.2 hb.size⟩)
              clear hb
              go_wp2_with fail
              go_roundw
              case rel => exact ⟨k + 1, by omega, by go_num, HBK1.out, HPS1.out, HBL1.out⟩
              case measure => simp [intOf]; omega
            · obtain rfl : N = k := by omega
              clear hprd
              go_wp2_with fail
              go_ret
              exact ⟨rfl, HBL.out.1⟩

/-- A book with its pages. -/
structure BookPages (w : World) (base kb : Nat) (pv : Value) (ps : List Pg) : Prop where
  book : BookAt w base kb pv (pageVals ps)
  pages : Pages w base kb pv ps (fun _ => False) (fun _ => False)
theorem BookPages.below {w w' : World} {base kb : Nat} {pv : Value} {ps : List Pg} (h : BookPages w base kb pv ps) (hb : Below w.heap.size w w') : BookPages w' base kb pv ps := ⟨h.book.below hb, h.pages.below hb⟩
/-- A new book. -/
theorem BookPages.new (w : World) (base : Nat) (hb : base ≤ w.heap.size) : BookPages (w.alloc (.cells #[.slice none 0 0] 32)) base w.heap.size (.slice none 0 0) [] :=
  ⟨⟨heap_alloc_new w _, World.ownsRow_nil _ _ _ _, hb, by simp [Value.ownBlock]⟩, ⟨fun k h => by simp at h, fun k h => by simp at h, fun i j h => by simp at h⟩⟩
theorem PgSt.ofOwn {w : World} {base n c : Nat} {a : Option Addr} {xs : List Value} (h : Own w base 5 1 (.slice a n c) n xs) (k : Nat) : PgSt w ⟨a, n, c⟩ k False False := by
  obtain ⟨a', c', e, _, h1, h2, _⟩ := h.rd
  simp only [Value.slice.injEq, true_and] at e
  obtain ⟨rfl, rfl⟩ := e
  refine ⟨h1, h2, ?_⟩
  rcases h.2 with ⟨e, rfl⟩ | ⟨g, off, cap, cur, e, hb, hg, _, _, hs, _⟩
  · simp only [Value.slice.injEq] at e
    exact .inl ⟨e.1, e.2.2⟩
  · simp only [Value.slice.injEq, true_and] at e
    obtain ⟨rfl, rfl⟩ := e
    exact .inr ⟨g, off, cur, rfl, hg, by simpa using hs, fun h => h.elim, fun h => h.elim⟩
theorem PgSt.ofTwin {w : World} {g n : Nat} {vs : List Value} {m : Value} (h : w.heap[g]? = some (.cells (vs ++ [m, m]).toArray 5 (0, 0))) (hn : n = vs.length) (hm : n + 2 ≤ maxLen) (k : Nat) : PgSt w ⟨some ⟨g, 0, none⟩, n, n + 2⟩ k False False :=
  ⟨Nat.le_add_right _ _, hm, .inr ⟨g, 0, _, rfl, h, by simp [hn], fun h => h.elim, fun h => h.elim⟩⟩
theorem PgSt.k {w : World} {p : Pg} {k j : Nat} (h : PgSt w p k False False) : PgSt w p j False False := by
  obtain ⟨a1, a2, h3⟩ := h
  refine ⟨a1, a2, ?_⟩
  rcases h3 with h3 | ⟨g, off, cur, e, hg, hs, _, _⟩
  · exact .inl h3
  · exact .inr ⟨g, off, cur, e, hg, hs, fun h => h.elim, fun h => h.elim⟩
theorem bytesP (base kb : Nat) (pv : Value) (ps : List Pg) (p : Pg) (w : World) (h : BookPages w base kb pv ps) (hn : ps.length < 120) (hbs : base ≤ w.heap.size) (hp : PgSt w p 0 False False)
    (hge : ∀ g, p.blk = some g → base ≤ g ∧ g ≠ kb ∧ pv.ownBlock ≠ some g ∧ ∀ k (hk : k < ps.length), ps[k].blk ≠ some g) :
    Calls Tryd.prog 21 #[.pointer (some ⟨kb, 0, none⟩), .slice p.a p.n p.c] w fun e w' => e = .returned (.tuple #[]) ∧
      ∃ pv', BookPages w' base kb pv' (ps ++ [p]) ∧ (pv'.ownBlock = pv.ownBlock ∨ ∀ k, pv'.ownBlock = some k → w.heap.size ≤ k) ∧ Laid w w' kb pv.ownBlock := by
  have hvl : (pageVals ps).length = ps.length := by simp [pageVals]
  refine (bytes_any base kb pv (pageVals ps) p.a p.n p.c w h.book (by omega) hbs).mono ?_
  rintro e w' ⟨rfl, pv', hbk, hpv, hl⟩
  refine ⟨rfl, pv', ⟨?_, ?_⟩, hpv, hl⟩
  · have e : pageVals (ps ++ [p]) = pageVals ps ++ [pageB p.a p.n p.c (pageVals ps).length] := by
      unfold pageVals
      rw [List.mapIdx_append]
      simp [pageB, Pg.val]
    rw [e]; exact hbk
  · have key : ∀ q j, PgSt w q j False False → (∀ g, q.blk = some g → g ≠ kb ∧ pv.ownBlock ≠ some g) → PgSt w' q j False False := fun q j hq hg =>
      hq.same fun g hgb => hl.block g (hq.lt g hgb) (hg g hgb).1 (hg g hgb).2
    have hnew : ∀ g, (∀ q j, PgSt w q j False False → q.blk = some g → pv.ownBlock ≠ some g → pv'.ownBlock ≠ some g) := fun g q j hq hg ho => by
      rcases hpv with e | e
      · rw [e]; exact ho
      · intro e2
        have := e g e2
        have := hq.lt g hg
        omega
    refine ⟨fun k hk => ?_, fun k hk g hg => ?_, fun i j hi hj hij g hg => ?_⟩
    · by_cases hk' : k < ps.length
      · rw [List.getElem_append_left hk']
        exact key _ _ (h.pages.st k hk') fun g hg => (h.pages.ge k hk' g hg).2
      · have : k = ps.length := by simp at hk; omega
        subst this
        rw [List.getElem_append_right (Nat.le_refl _)]
        simp only [Nat.sub_self, List.getElem_singleton]
        exact key _ _ hp.k fun g hg => ⟨(hge g hg).2.1, (hge g hg).2.2.1⟩
    · by_cases hk' : k < ps.length
      · rw [List.getElem_append_left hk'] at hg
        have := h.pages.ge k hk' g hg
        exact ⟨this.1, this.2.1, hnew g _ _ (h.pages.st k hk') hg this.2.2⟩
      · have : k = ps.length := by simp at hk; omega
        subst this
        rw [List.getElem_append_right (Nat.le_refl _)] at hg
        simp only [Nat.sub_self, List.getElem_singleton] at hg
        have := hge g hg
        exact ⟨this.1, this.2.1, hnew g _ _ hp hg this.2.2.1⟩
    · by_cases hi' : i < ps.length
      · rw [List.getElem_append_left hi'] at hg
        by_cases hj' : j < ps.length
        · rw [List.getElem_append_left hj']
          exact h.pages.apart i j hi' hj' hij g hg
        · have : j = ps.length := by simp at hj; omega
          subst this
          rw [List.getElem_append_right (Nat.le_refl _)]
          simp only [Nat.sub_self, List.getElem_singleton]
          intro e
          exact (hge g e).2.2.2 i hi' hg
      · have : i = ps.length := by simp at hi; omega
        subst this
        rw [List.getElem_append_right (Nat.le_refl _)] at hg
        simp only [Nat.sub_self, List.getElem_singleton] at hg
        have hj' : j < ps.length := by simp at hj; omega
        rw [List.getElem_append_left hj']
        exact (hge g hg).2.2.2 j hj'
theorem apartP (base kb : Nat) (pv : Value) (ps : List Pg) (w : World) (h : BookPages w base kb pv ps) (hn : ps.length ≤ 120) (hbs : base ≤ w.heap.size) :
    Calls Tryd.prog 22 #[.pointer (some ⟨kb, 0, none⟩)] w fun e w' => e = .returned (.bool true) ∧ Below base w w' :=
  apart_any base kb pv ps w h.book h.pages hn hbs
end Go.Proofs.YtlinhcbjljcgbaaDoor
