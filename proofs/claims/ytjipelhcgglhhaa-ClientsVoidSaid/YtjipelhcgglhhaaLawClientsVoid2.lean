/- ClientsVoid: its argument. -/
import Derived.Test.YtjipelhcgglhhaaLawClientsVoid
namespace Go.Proofs.Ytjipelhcgglhhaa
open Go.ChangeShapes Go.WideShapes Go.ChangeAt Go.RowKit
set_option linter.unusedVariables false
theorem flat_step : flat Try.prog 9 87 = some [81, 82, 82, 83, 83, 2, 2, 2, 2, 26] := by kernel_rfl
theorem flat_entry : flat Try.prog 9 96 = some [26, 26, 5, 26, 22] := by kernel_rfl
theorem flat_u8 : flat Try.prog 9 5 = some [5] := by kernel_rfl
theorem flat_got : flat Try.prog 9 90 = some [2, 2] := by kernel_rfl
theorem entry_cells : Try.prog.cellsOf 96 = 5 := by kernel_rfl
theorem flat_act : flat Try.prog 9 38 = some [5, 22, 25, 5, 5, 26, 26, 26, 26, 4, 27, 28, 5, 26, 22, 31, 31, 3, 32, 4] := by kernel_rfl
def ActOk (w : World) (v : Value) : Prop := ∃ (kd : Int) (ca : Option Addr) (cn cc : Nat) (kind frm lto term index mark commit : Int) (yes : Bool) (ea : Option Addr) (en ec : Nat) (da : Option Addr) (dn dc : Nat) (cid cnum : Int) (sa : Option Addr) (sn sc : Nat) (err rerr rat : Int) (ga : Option Addr) (gn gc : Nat) (near : Bool),
  v = .agg (act kd (.slice ca cn cc) kind frm lto term index mark commit yes (.slice ea en ec) (.slice da dn dc) cid cnum (.slice sa sn sc) err rerr rat (.slice ga gn gc) near) ∧ cn ≤ maxLen ∧ en ≤ maxLen ∧ dn ≤ maxLen ∧ sn ≤ maxLen ∧ gn ≤ maxLen ∧ EntriesOk w ea en
set_option maxRecDepth 100000 in
theorem open_act {H : Type} {enc : TypeId × Value → H} {W : World} {held : Bool} {v : Value} {d : DataW H} {p : List MemPlace} {r : Reach} {b0 : Nat}
    (hval : Value.okWide Try.prog W r b0 38 v) (h : DataW.Trod enc Try.prog W 0 (fun _ => true) held 38 v d p) : ActOk W v := by
  obtain ⟨cs, rfl, hn, hp⟩ := open_flat (.inl ⟨_, Try.underlying38⟩) flat_act hval h
  obtain ⟨x0, hx0, k0⟩ := hp 0 _ rfl
  obtain ⟨x1, hx1, k1⟩ := hp 1 _ rfl
  obtain ⟨x2, hx2, k2⟩ := hp 2 _ rfl
  obtain ⟨x3, hx3, k3⟩ := hp 3 _ rfl
  obtain ⟨x4, hx4, k4⟩ := hp 4 _ rfl
  obtain ⟨x5, hx5, k5⟩ := hp 5 _ rfl
  obtain ⟨x6, hx6, k6⟩ := hp 6 _ rfl
  obtain ⟨x7, hx7, k7⟩ := hp 7 _ rfl
  obtain ⟨x8, hx8, k8⟩ := hp 8 _ rfl
  obtain ⟨x9, hx9, k9⟩ := hp 9 _ rfl
  obtain ⟨x10, hx10, k10⟩ := hp 10 _ rfl
  obtain ⟨x11, hx11, k11⟩ := hp 11 _ rfl
  obtain ⟨x12, hx12, k12⟩ := hp 12 _ rfl
  obtain ⟨x13, hx13, k13⟩ := hp 13 _ rfl
  obtain ⟨x14, hx14, k14⟩ := hp 14 _ rfl
  obtain ⟨x15, hx15, k15⟩ := hp 15 _ rfl
  obtain ⟨x16, hx16, k16⟩ := hp 16 _ rfl
  obtain ⟨x17, hx17, k17⟩ := hp 17 _ rfl
  obtain ⟨x18, hx18, k18⟩ := hp 18 _ rfl
  obtain ⟨x19, hx19, k19⟩ := hp 19 _ rfl
  obtain ⟨l⟩ := cs
  have hcs : l = [x0, x1, x2, x3, x4, x5, x6, x7, x8, x9, x10, x11, x12, x13, x14, x15, x16, x17, x18, x19] := by
    match l, hn with
    | [c0, c1, c2, c3, c4, c5, c6, c7, c8, c9, c10, c11, c12, c13, c14, c15, c16, c17, c18, c19], _ => simp at hx0 hx1 hx2 hx3 hx4 hx5 hx6 hx7 hx8 hx9 hx10 hx11 hx12 hx13 hx14 hx15 hx16 hx17 hx18 hx19; subst_vars; rfl
  subst hcs
  clear hx0 hx1 hx2 hx3 hx4 hx5 hx6 hx7 hx8 hx9 hx10 hx11 hx12 hx13 hx14 hx15 hx16 hx17 hx18 hx19 hp hn hval h
  obtain ⟨kd, rfl, _⟩ := leaf_int Try.underlying5 k0
  obtain ⟨a1, n1, c1, xs1, rfl, hn1, hc1, hl1, hr1, hz1, hp1⟩ := leaf_slice Try.underlying22 flat_step k1
  obtain ⟨kind, rfl, _⟩ := leaf_int Try.underlying25 k2
  obtain ⟨frm, rfl, _⟩ := leaf_int Try.underlying5 k3
  obtain ⟨lto, rfl, _⟩ := leaf_int Try.underlying5 k4
  obtain ⟨term, rfl, _⟩ := leaf_int Try.underlying26 k5
  obtain ⟨index, rfl, _⟩ := leaf_int Try.underlying26 k6
  obtain ⟨mark, rfl, _⟩ := leaf_int Try.underlying26 k7
  obtain ⟨commit, rfl, _⟩ := leaf_int Try.underlying26 k8
  obtain ⟨yes, rfl⟩ := leaf_bool Try.underlying4 k9
  obtain ⟨a10, n10, c10, xs10, rfl, hn10, hc10, hl10, hr10, hz10, hp10⟩ := leaf_slice Try.underlying27 flat_entry k10
  obtain ⟨a11, n11, c11, xs11, rfl, hn11, hc11, hl11, hr11, hz11, hp11⟩ := leaf_slice Try.underlying28 flat_u8 k11
  obtain ⟨cid, rfl, _⟩ := leaf_int Try.underlying5 k12
  obtain ⟨cnum, rfl, _⟩ := leaf_int Try.underlying26 k13
  obtain ⟨a14, n14, c14, xs14, rfl, hn14, hc14, hl14, hr14, hz14, hp14⟩ := leaf_slice Try.underlying22 flat_step k14
  obtain ⟨err, rfl, _⟩ := leaf_int Try.underlying31 k15
  obtain ⟨rerr, rfl, _⟩ := leaf_int Try.underlying31 k16
  obtain ⟨rat, rfl, _⟩ := leaf_int Try.underlying3 k17
  obtain ⟨a18, n18, c18, xs18, rfl, hn18, hc18, hl18, hr18, hz18, hp18⟩ := leaf_slice Try.underlying32 flat_got k18
  obtain ⟨near, rfl⟩ := leaf_bool Try.underlying4 k19
  refine ⟨kd, a1, n1, c1, kind, frm, lto, term, index, mark, commit, yes, a10, n10, c10, a11, n11, c11, cid, cnum, a14, n14, c14, err, rerr, rat, a18, n18, c18, near, rfl, by omega, by omega, by omega, by omega, by omega, ?_⟩
  by_cases h0 : n10 = 0
  · exact .inl h0
  · rw [entry_cells] at hl10 hp10
    obtain ⟨b, o, rfl, hb⟩ := hr10.lt (by omega)
    refine .inr ⟨b, o, rfl, hb, fun i hi => ?_⟩
    obtain ⟨v', hv', k'⟩ := hp10 i 4 _ hi rfl
    obtain ⟨a', n', c', xs', rfl, hn', hc', _⟩ := leaf_slice Try.underlying22 flat_step k'
    refine ⟨a', n', c', ?_, by unfold maxLen at hc'; omega⟩
    obtain ⟨hlt, he⟩ := List.getElem?_eq_some_iff.1 hv'
    have := hr10.get hlt
    rw [he] at this
    rw [← this, Nat.add_assoc]
theorem clientsVoid_law (x : Value) (w : World) (o : ActOk w x) : Calls Try.prog 3 #[x] w fun e w' => e = .returned (.bool true) ∧ Below w.heap.size w w' := by
  obtain ⟨kd, ca, cn, cc, kind, frm, lto, term, index, mark, commit, yes, ea, en, ec, da, dn, dc, cid, cnum, sa, sn, sc, err, rerr, rat, ga, gn, gc, near, rfl, h0, h1, h2, h3, h4, he⟩ := o
  unfold maxLen at h0 h1 h2 h3 h4
  exact clientsVoid_walk kd ca cn cc kind frm lto term index mark commit yes ea en ec da dn dc cid cnum sa sn sc err rerr rat ga gn gc near w h0 h1 h2 h3 h4 he
end Go.Proofs.Ytjipelhcgglhhaa
