/- The chapter's example of rates: it holds. -/
import Derived.Test.YtfbipghjhngncaaRats4
namespace Go.Proofs.Ytfbipghjhngncaa
open Go.RowKit

attribute [local go_sem high] ratEq_run ratSame_self
set_option maxRecDepth 100000 in
set_option maxHeartbeats 4000000 in
theorem lives02_any (w : World) : Calls Try.prog 38 #[] w fun e w' => e = .returned (.bool true) ∧ Below w.heap.size w w' := by
  have T1 := Lib.hid ((Two.new w 42 (.int .i64 3) (.int .i64 2)).alloc (.cells #[.int .i64 6, .int .i64 4] 42))
  have T2' := Two.new (w.alloc (.cells #[.int .i64 3, .int .i64 2] 42)) 42 (.int .i64 6) (.int .i64 4)
  rw [World.size_alloc] at T2'
  have T2 := Lib.hid T2'
  clear T2'
  have HB := Lib.hid (below_trans2 ((Below.refl _ w).alloc (Nat.le_refl _) (.cells #[.int .i64 3, .int .i64 2] 42)) ((Below.refl _ (w.alloc (.cells #[.int .i64 3, .int .i64 2] 42))).alloc (Nat.le_refl _) (.cells #[.int .i64 6, .int .i64 4] 42)))
  go_enter Try.func38, Try.ntmps38
  go_wp2_with fail
  refine (rof_any 6 4 _ (by omega) (by omega) (by omega) (by omega)).mono ?_
  rintro e w1 ⟨rfl, hb1⟩
  rw [show rof 6 4 = .tuple #[.agg #[.int .i64 3, .int .i64 2], .int .i64 0] from rfl]
  have T1 := Lib.hid (T1.out.on hb1)
  have T2 := Lib.hid (T2.out.on hb1)
  have HB := Lib.hid (below_trans2 HB.out hb1)
  have T1 := Lib.hid (T1.out.alloc (.cells #[.int .i64 3, .int .i64 2] 42))
  have T2 := Lib.hid (T2.out.alloc (.cells #[.int .i64 3, .int .i64 2] 42))
  have T3 := Lib.hid (Two.new w1 42 (.int .i64 3) (.int .i64 2))
  have HB := Lib.hid (below_trans2 HB.out ((Below.refl _ w1).alloc (Nat.le_refl _) (.cells #[.int .i64 3, .int .i64 2] 42)))
  have cT10 := T1.out.c0
  have cT11 := T1.out.c1
  have cT20 := T2.out.c0
  have cT21 := T2.out.c1
  have cT30 := T3.out.c0
  have cT31 := T3.out.c1
  clear hb1
  go_wp2_with fail
  refine (rof_any 0 1 _ (by omega) (by omega) (by omega) (by omega)).mono ?_
  rintro e w2 ⟨rfl, hb2⟩
  rw [show rof 0 1 = .tuple #[.agg #[.int .i64 0, .int .i64 0], .int .i64 1] from rfl]
  have T1 := Lib.hid (T1.out.on hb2)
  have T2 := Lib.hid (T2.out.on hb2)
  have T3 := Lib.hid (T3.out.on hb2)
  have HB := Lib.hid (below_trans2 HB.out hb2)
  have T1 := Lib.hid (T1.out.alloc (.cells #[.int .i64 0, .int .i64 0] 42))
  have T2 := Lib.hid (T2.out.alloc (.cells #[.int .i64 0, .int .i64 0] 42))
  have T3 := Lib.hid (T3.out.alloc (.cells #[.int .i64 0, .int .i64 0] 42))
  have HB := Lib.hid (below_trans2 HB.out ((Below.refl _ w2).alloc (Nat.le_refl _) (.cells #[.int .i64 0, .int .i64 0] 42)))
  have cT10 := T1.out.c0
  have cT11 := T1.out.c1
  have cT20 := T2.out.c0
  have cT21 := T2.out.c1
  have cT30 := T3.out.c0
  have cT31 := T3.out.c1
  clear hb2
  go_wp2_with fail
  refine (rof_any 1099511627777 1 _ (by omega) (by omega) (by omega) (by omega)).mono ?_
  rintro e w3 ⟨rfl, hb3⟩
  rw [show rof 1099511627777 1 = .tuple #[.agg #[.int .i64 0, .int .i64 0], .int .i64 10] from rfl]
  have T1 := Lib.hid (T1.out.on hb3)
  have T2 := Lib.hid (T2.out.on hb3)
  have T3 := Lib.hid (T3.out.on hb3)
  have HB := Lib.hid (below_trans2 HB.out hb3)
  have T1 := Lib.hid (T1.out.alloc (.cells #[.int .i64 0, .int .i64 0] 42))
  have T2 := Lib.hid (T2.out.alloc (.cells #[.int .i64 0, .int .i64 0] 42))
  have T3 := Lib.hid (T3.out.alloc (.cells #[.int .i64 0, .int .i64 0] 42))
  have HB := Lib.hid (below_trans2 HB.out ((Below.refl _ w3).alloc (Nat.le_refl _) (.cells #[.int .i64 0, .int .i64 0] 42)))
  have cT10 := T1.out.c0
  have cT11 := T1.out.c1
  have cT20 := T2.out.c0
  have cT21 := T2.out.c1
  have cT30 := T3.out.c0
  have cT31 := T3.out.c1
  clear hb3
  go_wp2_with fail
  refine (rof_any 2199023255552 2 _ (by omega) (by omega) (by omega) (by omega)).mono ?_
  rintro e w4 ⟨rfl, hb4⟩
  rw [show rof 2199023255552 2 = .tuple #[.agg #[.int .i64 1099511627776, .int .i64 1], .int .i64 0] from rfl]
  have T1 := Lib.hid (T1.out.on hb4)
  have T2 := Lib.hid (T2.out.on hb4)
  have T3 := Lib.hid (T3.out.on hb4)
  have HB := Lib.hid (below_trans2 HB.out hb4)
  have T1 := Lib.hid (T1.out.alloc (.cells #[.int .i64 1099511627776, .int .i64 1] 42))
  have T2 := Lib.hid (T2.out.alloc (.cells #[.int .i64 1099511627776, .int .i64 1] 42))
  have T3 := Lib.hid (T3.out.alloc (.cells #[.int .i64 1099511627776, .int .i64 1] 42))
  have T9 := Lib.hid (Two.new w4 42 (.int .i64 1099511627776) (.int .i64 1))
  have HB := Lib.hid (below_trans2 HB.out ((Below.refl _ w4).alloc (Nat.le_refl _) (.cells #[.int .i64 1099511627776, .int .i64 1] 42)))
  have cT10 := T1.out.c0
  have cT11 := T1.out.c1
  have cT20 := T2.out.c0
  have cT21 := T2.out.c1
  have cT30 := T3.out.c0
  have cT31 := T3.out.c1
  have cT90 := T9.out.c0
  have cT91 := T9.out.c1
  clear hb4
  go_wp2_with fail
  refine (rdown_any 5 3 2 _ (by omega) (by omega) ⟨by omega, by omega, by omega, by omega⟩).mono ?_
  rintro e w5 ⟨rfl, hb5⟩
  rw [show (if mayB 3 2 then pairV (downN 5 3 2) (downE 5 3 2) else pairV 0 1) = .tuple #[.int .i64 7, .int .i64 0] from rfl]
  have T1 := Lib.hid (T1.out.on hb5)
  have T2 := Lib.hid (T2.out.on hb5)
  have T3 := Lib.hid (T3.out.on hb5)
  have T9 := Lib.hid (T9.out.on hb5)
  have HB := Lib.hid (below_trans2 HB.out hb5)
  have cT10 := T1.out.c0
  have cT11 := T1.out.c1
  have cT20 := T2.out.c0
  have cT21 := T2.out.c1
  have cT30 := T3.out.c0
  have cT31 := T3.out.c1
  have cT90 := T9.out.c0
  have cT91 := T9.out.c1
  clear hb5
  go_wp2_with fail
  refine (rup_any 5 3 2 _ (by omega) (by omega) ⟨by omega, by omega, by omega, by omega⟩).mono ?_
  rintro e w6 ⟨rfl, hb6⟩
  rw [show (if mayB 3 2 then pairV (upN 5 3 2) (upE 5 3 2) else pairV 0 1) = .tuple #[.int .i64 8, .int .i64 0] from rfl]
  have T1 := Lib.hid (T1.out.on hb6)
  have T2 := Lib.hid (T2.out.on hb6)
  have T3 := Lib.hid (T3.out.on hb6)
  have T9 := Lib.hid (T9.out.on hb6)
  have HB := Lib.hid (below_trans2 HB.out hb6)
  have cT10 := T1.out.c0
  have cT11 := T1.out.c1
  have cT20 := T2.out.c0
  have cT21 := T2.out.c1
  have cT30 := T3.out.c0
  have cT31 := T3.out.c1
  have cT90 := T9.out.c0
  have cT91 := T9.out.c1
  clear hb6
  go_wp2_with fail
  refine (may_any 6 4 _ (by omega) (by omega) (by omega) (by omega)).mono ?_
  rintro e w7 ⟨rfl, hb7⟩
  rw [show mayB 6 4 = false from rfl]
  have T1 := Lib.hid (T1.out.on hb7)
  have T2 := Lib.hid (T2.out.on hb7)
  have HB := Lib.hid (below_trans2 HB.out hb7)
  have cT10 := T1.out.c0
  have cT11 := T1.out.c1
  have cT20 := T2.out.c0
  have cT21 := T2.out.c1
  clear hb7
  go_wp2_with fail
  refine (may_any 3 2 _ (by omega) (by omega) (by omega) (by omega)).mono ?_
  rintro e w8 ⟨rfl, hb8⟩
  rw [show mayB 3 2 = true from rfl]
  have T1 := Lib.hid (T1.out.on hb8)
  have T2 := Lib.hid (T2.out.on hb8)
  have HB := Lib.hid (below_trans2 HB.out hb8)
  have cT10 := T1.out.c0
  have cT11 := T1.out.c1
  have cT20 := T2.out.c0
  have cT21 := T2.out.c1
  clear hb8
  go_wp2_with fail
  refine (may_any 0 1 _ (by omega) (by omega) (by omega) (by omega)).mono ?_
  rintro e w9 ⟨rfl, hb9⟩
  rw [show mayB 0 1 = false from rfl]
  have T1 := Lib.hid (T1.out.on hb9)
  have T2 := Lib.hid (T2.out.on hb9)
  have HB := Lib.hid (below_trans2 HB.out hb9)
  have cT10 := T1.out.c0
  have cT11 := T1.out.c1
  have cT20 := T2.out.c0
  have cT21 := T2.out.c1
  clear hb9
  go_wp2_with fail
  refine (rcompare_any 1 3 2 5 _ ⟨by omega, by omega, by omega, by omega⟩ ⟨by omega, by omega, by omega, by omega⟩).mono ?_
  rintro e w10 ⟨rfl, hb10⟩
  rw [show cmpR 1 3 2 5 = -1 from rfl]
  have T1 := Lib.hid (T1.out.on hb10)
  have T2 := Lib.hid (T2.out.on hb10)
  have HB := Lib.hid (below_trans2 HB.out hb10)
  have cT10 := T1.out.c0
  have cT11 := T1.out.c1
  have cT20 := T2.out.c0
  have cT21 := T2.out.c1
  clear hb10
  go_wp2_with fail
  refine (inverse_any 3 2 _ ⟨by omega, by omega, by omega, by omega⟩).mono ?_
  rintro e w11 ⟨rfl, hb11⟩
  rw [show invV 3 2 = .agg #[.int .i64 2, .int .i64 3] from rfl]
  have T1 := Lib.hid (T1.out.on hb11)
  have T2 := Lib.hid (T2.out.on hb11)
  have HB := Lib.hid (below_trans2 HB.out hb11)
  have cT10 := T1.out.c0
  have cT11 := T1.out.c1
  have cT20 := T2.out.c0
  have cT21 := T2.out.c1
  clear hb11
  go_wp2_with fail
  refine (inverse_any 6 4 _ ⟨by omega, by omega, by omega, by omega⟩).mono ?_
  rintro e w12 ⟨rfl, hb12⟩
  rw [show invV 6 4 = .agg #[.int .i64 0, .int .i64 0] from rfl]
  have T1 := Lib.hid (T1.out.on hb12)
  have T2 := Lib.hid (T2.out.on hb12)
  have HB := Lib.hid (below_trans2 HB.out hb12)
  have cT10 := T1.out.c0
  have cT11 := T1.out.c1
  have cT20 := T2.out.c0
  have cT21 := T2.out.c1
  clear hb12
  go_wp2_with fail
  refine (rfits_any 7 3 2 _ (by omega) (by omega) ⟨by omega, by omega, by omega, by omega⟩).mono ?_
  rintro e w13 ⟨rfl, hb13⟩
  rw [show fitsN 7 3 2 = 4 from rfl]
  have T1 := Lib.hid (T1.out.on hb13)
  have T2 := Lib.hid (T2.out.on hb13)
  have HB := Lib.hid (below_trans2 HB.out hb13)
  have cT10 := T1.out.c0
  have cT11 := T1.out.c1
  have cT20 := T2.out.c0
  have cT21 := T2.out.c1
  clear hb13
  go_wp2_with fail
  refine (rfits_any (-1) 3 2 _ (by omega) (by omega) ⟨by omega, by omega, by omega, by omega⟩).mono ?_
  rintro e w14 ⟨rfl, hb14⟩
  rw [show fitsN (-1) 3 2 = 0 from rfl]
  have T1 := Lib.hid (T1.out.on hb14)
  have T2 := Lib.hid (T2.out.on hb14)
  have HB := Lib.hid (below_trans2 HB.out hb14)
  have cT10 := T1.out.c0
  have cT11 := T1.out.c1
  have cT20 := T2.out.c0
  have cT21 := T2.out.c1
  clear hb14
  go_wp2_with fail
  refine (rfits_any 9223372036854775807 1 1 _ (by omega) (by omega) ⟨by omega, by omega, by omega, by omega⟩).mono ?_
  rintro e w15 ⟨rfl, hb15⟩
  rw [show fitsN 9223372036854775807 1 1 = 1099511627776 from rfl]
  have T1 := Lib.hid (T1.out.on hb15)
  have T2 := Lib.hid (T2.out.on hb15)
  have HB := Lib.hid (below_trans2 HB.out hb15)
  have cT10 := T1.out.c0
  have cT11 := T1.out.c1
  have cT20 := T2.out.c0
  have cT21 := T2.out.c1
  clear hb15
  go_wp2_with fail
  go_ret
  exact ⟨rfl, HB.out⟩
end Go.Proofs.Ytfbipghjhngncaa
