/- ExactsSum: the program's sum of numbers is the reference's; they stay. -/
import Derived.Test.YtfbipghjhngncaaRefSum
import Derived.Test.YtfbipghjhngncaaTwin64
import Derived.Test.YtfbipghjhngncaaLawExactsTwo
import Derived.Test.YtfbipghjhngncaaOpen
namespace Go.Proofs.Ytfbipghjhngncaa
open Go.RowKit Go.ChangeShapes Go.WideShapes Go.ChangeAt
set_option linter.unusedSimpArgs false
set_option linter.unusedVariables false

/-- A slice of numbers that came in. -/
structure IsNums (w : World) (a : Option Addr) (n c : Nat) (zs : List Int) : Prop where
  len : n = zs.length
  cap : n ≤ c
  max : c ≤ maxLen
  rd : Rd w a (I64s zs)
  all : In64 zs

theorem open_nums {H : Type} {enc : TypeId × Value → H} {P : Program} {W : World} {held : Bool} {t e : TypeId} {v : Value} {d : DataW H} {p : List MemPlace} {r : Reach} {base : Nat}
    (ht : P.underlying t = some (.slice e)) (he : P.underlying e = some (.int .i64)) (hc : P.cellsOf e = 1) (hv : Value.okWide P W r base t v)
    (h : DataW.Trod enc P W 0 (fun _ => true) held t v d p) : ∃ a n c zs, v = .slice a n c ∧ IsNums W a n c zs := by
  obtain ⟨a, n, c, rfl⟩ := okWide_slice ht hv
  obtain ⟨fuel, hf⟩ := h
  rcases open_ints ht he hc hf with ⟨hcs, _⟩ | ⟨x, l, c', zs, hcs, _, hl, hm, hz, _, hcell, hwz⟩
  · simp [Value.cells] at hcs
    obtain ⟨rfl, rfl, rfl⟩ := hcs
    exact ⟨none, 0, 0, [], rfl, rfl, Nat.le_refl _, by unfold maxLen; omega, Rd.nil _ _, fun x hx => by cases hx⟩
  · simp [Value.cells] at hcs
    obtain ⟨rfl, rfl, rfl⟩ := hcs
    rw [if_pos rfl] at hz
    refine ⟨_, n, c, zs.take n, rfl, ?_, hl, hm, Rd.ofCells fun i hi => ?_, fun y hy => bounds_i64 (hwz y (List.mem_of_mem_take hy))⟩
    · simp at hz ⊢; omega
    · simp [I64s] at hi
      rw [hcell i (by omega)]
      simp [I64s, List.getD_eq_getElem?_getD, show i < zs.length by omega]

theorem oneCell_I64s (zs : List Int) : ∀ u ∈ I64s zs, u.oneCell' = true := by
  intro u hu
  obtain ⟨x, _, rfl⟩ := List.mem_map.1 hu
  rfl

set_option maxRecDepth 100000 in
set_option maxHeartbeats 2000000 in
theorem exactsSum_law (a : Option Addr) (n c : Nat) (zs : List Int) (w : World) (o : IsNums w a n c zs) :
    Calls Try.prog 4 #[.slice a n c] w fun e w' => e = .returned (.bool true) ∧ Below w.heap.size w w' := by
  have hL := lives01_ans
  by_cases hgt : 100 < n
  · clear o
    go_enter Try.func4, Try.ntmps4
    go_wp2_with ((with_reducible refine Ans.call (by assumption) ?_); intro _)
    go_ret
    exact ⟨rfl, (by repeat (first | exact Ext.refl _ | refine Ext.alloc ?_ _ | refine Ext.ext ?_ _ | refine Ext.drew ?_))⟩
  · have hle : n ≤ 100 := by omega
    clear hgt
    have h7 := alike_ans (num64 (sumTo zs)) (err64 (sumTo zs))
    have hlen : n = (I64s zs).length := by rw [o.len]; simp [I64s]
    have HT := Lib.hid (fun wx (hx : Rd wx a (I64s zs)) => twin_any a n c (I64s zs) (-77) wx hlen (by omega) hx (oneCell_I64s zs))
    have HO := Lib.hid o
    have HLN := Lib.hid o.len
    clear o hlen
    go_enter Try.func4, Try.ntmps4
    go_wp2_with fail
    refine (HT.out w HO.out.rd).mono ?_
    rintro e w1 ⟨g, rfl, hg, ht, hb1⟩
    have HTW := Lib.hid ht
    have HB1 := Lib.hid hb1
    clear ht hb1
    go_wp2_with fail
    refine (sum_any (some ⟨g, 0, none⟩) n (n + 2) zs w1 HLN.out (by unfold maxLen; omega) HTW.out.rd HO.out.all).mono ?_
    rintro e w2 ⟨rfl, hb2⟩
    have HTW2 := Lib.hid (HTW.out.below hb2)
    have HB2 := Lib.hid (HB1.out.trans (hb2.mono HB1.out.size))
    clear hb2 HTW HB1
    unfold pairV
    go_wp2_with fail
    refine (rsum_any a n c zs w2 HLN.out (by omega) (HO.out.rd.below HB2.out) HO.out.all).mono ?_
    rintro e w3 ⟨rfl, hb3⟩
    have HTW3 := Lib.hid (HTW2.out.below hb3)
    have HB3 := Lib.hid (HB2.out.trans (hb3.mono HB2.out.size))
    clear hb3 HTW2 HB2
    generalize num64 (sumTo zs) = nn at *
    generalize err64 (sumTo zs) = ee at *
    go_wp2_with fail
    refine h7.call fun d => ?_
    have HTW4 := Lib.hid (HTW3.out.below (ext_below w3 d))
    have HB4 := Lib.hid (HB3.out.trans ((ext_below w3 d).mono HB3.out.size))
    clear HTW3 HB3
    generalize World.ext w3 d = w4 at *
    go_wp2_with fail
    refine (left_any g n c a n zs zs (-77) w4 HLN.out (by omega) HLN.out HTW4.out (HO.out.rd.below HB4.out)).mono ?_
    rintro e w5 ⟨rfl, hb5⟩
    have HB5 := Lib.hid (HB4.out.trans (hb5.mono HB4.out.size))
    clear hb5 HTW4 HB4
    rw [decide_eq_true (rfl : zs = zs)]
    go_wp2_with fail
    refine hL.call fun d => ?_
    have HB6 := Lib.hid (HB5.out.trans ((ext_below w5 d).mono HB5.out.size))
    generalize World.ext w5 d = w6 at *
    go_wp2_with fail
    go_ret
    exact ⟨rfl, HB6.out⟩
end Go.Proofs.Ytfbipghjhngncaa
