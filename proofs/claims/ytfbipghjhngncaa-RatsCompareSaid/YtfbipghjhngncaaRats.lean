/- What the functions of rats come to: a rate in its lowest terms. -/
import Derived.Test.YtfbipghjhngncaaLives01
import Derived.Test.YtfbipghjhngncaaTwo
import Derived.Scope
import Derived.ScopeJumps
import Derived.WalkMore
namespace Go.Proofs.Ytfbipghjhngncaa
open Go.RowKit

theorem gcd_step {a b : Int} (ha : 0 ≤ a) (hb : 0 < b) : Int.gcd b (a % b) = Int.gcd a b := by
  obtain ⟨A, rfl⟩ : ∃ A : Nat, a = A := ⟨a.toNat, by omega⟩
  obtain ⟨B, rfl⟩ : ∃ A : Nat, b = A := ⟨b.toNat, by omega⟩
  rw [← Int.natCast_emod]
  show Nat.gcd B (A % B) = Nat.gcd A B
  rw [Nat.gcd_comm A B, Nat.gcd_rec B A, Nat.gcd_comm]
set_option maxHeartbeats 1000000 in
theorem divisor_any (a b : Int) (w : World) (a0 : 0 ≤ a) (a1 : a ≤ 9223372036854775807) (b0 : 0 ≤ b) (b1 : b ≤ 9223372036854775807) :
    Calls Try.prog 68 #[.int .i64 a, .int .i64 b] w fun e w' => e = .returned (.int .i64 (Int.gcd a b : Int)) ∧ Below w.heap.size w w' := by
  go_enter Try.func68, Try.ntmps68
  go_wp2_with fail
  refine wp_scope_jumps 0 (fun a' w' => Below w.heap.size w w' ∧ ∃ (x y : Int) (u4 u5 u6 u7 u8 u9 u10 u11 : Value), a' = { tmps := #[.int .i64 x, .int .i64 y, undef, undef, u4, u5, u6, u7, u8, u9, u10, u11], defers := [] } ∧ 0 ≤ x ∧ x ≤ 9223372036854775807 ∧ 0 ≤ y ∧ y ≤ 9223372036854775807 ∧ Int.gcd x y = Int.gcd a b) (fun a' _ => (intOf (a'.tmps.getD 1 undef)).toNat) rfl ?_ ?_
  · go_wp2
    go_step3
    by_cases hz : b = 0
    · subst hz
      go_wp2_with fail
      simp only [Exit.jump]
      go_ret
      refine ⟨?_, Below.refl _ _⟩
      rw [Int.gcd_zero_right, show (a.natAbs : Int) = a by omega]
      rfl
    · have hb : (b == 0) = false := by simpa using hz
      have hnn := Int.emod_nonneg a hz
      have hlt := Int.emod_lt_of_pos a (show 0 < b by omega)
      go_wp2_with fail
      go_quiet (fail)
      go_wp2_with fail
      go_step3
      exact ⟨rfl, below_drewN (Below.refl _ _) _, b, a % b, _, _, _, _, _, _, _, _, rfl, b0, b1, hnn, by omega, gcd_step a0 (by omega)⟩
  · rintro a' w' ⟨hbl, x, y, u4, u5, u6, u7, u8, u9, u10, u11, rfl, x0, x1, y0, y1, hg⟩
    have HG := Lib.hid hg
    have HB := Lib.hid hbl
    clear hg hbl
    by_cases hz : y = 0
    · subst hz
      go_wp2_with fail
      simp only [Exit.jump]
      go_ret
      refine ⟨?_, HB.out⟩
      rw [← HG.out, Int.gcd_zero_right, show (x.natAbs : Int) = x by omega]
      rfl
    · have hb : (y == 0) = false := by simpa using hz
      have hnn := Int.emod_nonneg x hz
      have hlt := Int.emod_lt_of_pos x (show 0 < y by omega)
      go_wp2_with fail
      go_quiet (fail)
      go_wp2_with fail
      go_step3
      refine ⟨rfl, ⟨below_drewN HB.out _, y, x % y, _, _, _, _, _, _, _, _, rfl, y0, y1, hnn, by omega, by rw [gcd_step x0 (by omega)]; exact HG.out⟩, ?_⟩
      simp [intOf]
      omega

def ratV (n d : Int) : Value := .agg #[.int .i64 n, .int .i64 d]
/-- Both terms are positive. -/
def PosT (n d : Int) : Prop := 1 ≤ n ∧ 1 ≤ d
instance (n d : Int) : Decidable (PosT n d) := by unfold PosT; infer_instance
def lowN (n d : Int) : Int := if PosT n d then n / (Int.gcd n d : Int) else 0
def lowD (n d : Int) : Int := if PosT n d then d / (Int.gcd n d : Int) else 0
theorem gcd_pos {n d : Int} (h : PosT n d) : 1 ≤ (Int.gcd n d : Int) := by
  have : 0 < Int.gcd n d := Int.gcd_pos_of_ne_zero_left _ (by unfold PosT at h; omega)
  omega
theorem low_bounds {n d : Int} (n1 : n ≤ 9223372036854775807) (d1 : d ≤ 9223372036854775807) : 0 ≤ lowN n d ∧ lowN n d ≤ 9223372036854775807 ∧ 0 ≤ lowD n d ∧ lowD n d ≤ 9223372036854775807 := by
  unfold lowN lowD
  by_cases h : PosT n d
  · rw [if_pos h, if_pos h]
    have hg := gcd_pos h
    unfold PosT at h
    have h1 := Int.ediv_le_self (a := n) (Int.gcd n d : Int) (by omega)
    have h2 := Int.ediv_le_self (a := d) (Int.gcd n d : Int) (by omega)
    have h3 : 0 ≤ n / (Int.gcd n d : Int) := Int.ediv_nonneg (by omega) (by omega)
    have h4 : 0 ≤ d / (Int.gcd n d : Int) := Int.ediv_nonneg (by omega) (by omega)
    omega
  · rw [if_neg h, if_neg h]; omega
set_option maxHeartbeats 1000000 in
theorem least_any (n d : Int) (w : World) (n0 : -9223372036854775808 ≤ n) (n1 : n ≤ 9223372036854775807) (d0 : -9223372036854775808 ≤ d) (d1 : d ≤ 9223372036854775807) :
    Calls Try.prog 56 #[.int .i64 n, .int .i64 d] w fun e w' => e = .returned (ratV (lowN n d) (lowD n d)) ∧ Below w.heap.size w w' := by
  by_cases h : PosT n d
  · have e1 : lowN n d = n / (Int.gcd n d : Int) := if_pos h
    have e2 : lowD n d = d / (Int.gcd n d : Int) := if_pos h
    have hg := gcd_pos h
    have hb := low_bounds n1 d1 (n := n) (d := d)
    have k1 : decide (n < 1) = false := by unfold PosT at h; simp; omega
    have k2 : decide (d < 1) = false := by unfold PosT at h; simp; omega
    rw [e1, e2] at hb ⊢
    have hn : 0 ≤ n := by unfold PosT at h; omega
    have hd : 0 ≤ d := by unfold PosT at h; omega
    obtain ⟨g, hgg⟩ : ∃ g : Int, g = (Int.gcd n d : Int) := ⟨_, rfl⟩
    rw [← hgg] at hb hg ⊢
    obtain ⟨x, hx⟩ : ∃ x, n / g = x := ⟨_, rfl⟩
    obtain ⟨y, hy⟩ : ∃ x, d / g = x := ⟨_, rfl⟩
    have hgb : g ≤ 9223372036854775807 := by
      have : (Int.gcd n d : Int) ≤ n := Int.gcd_le_left _ (by unfold PosT at h; omega)
      omega
    rw [hx, hy] at hb ⊢
    have hgz : (g == 0) = false := by simp; omega
    have HG := Lib.hid hgg
    clear hgg h e1 e2
    obtain ⟨b1, b2, b3, b4⟩ := hb
    go_enter Try.func56, Try.ntmps56
    go_wp2_with fail
    refine (divisor_any n d _ hn n1 hd d1).mono ?_
    rintro e w1 ⟨rfl, hb1⟩
    rw [← HG.out]
    have hbk := (Two.new w _ _ _).on hb1
    have c0 := hbk.c0
    have c1 := hbk.c1
    have f0 := hbk.f0
    have f1 := hbk.f1
    have HB := Lib.hid hb1
    have HK := Lib.hid hbk
    clear hb1 hbk
    go_wp2_with fail
    go_region
    go_wp2_with fail
    have r0 := (HK.out.set0 (.int .i64 x)).c0
    have r1 := ((HK.out.set0 (.int .i64 x)).set1 (.int .i64 y)).c1
    refine bodyPost_ret (by simp [results, Try.results56, go_sem, r0, r1]; try rfl) rfl ?_
    refine ⟨rfl, ?_⟩
    have hal : Below w.heap.size w (w.alloc (Obj.cells #[Value.int IntKind.i64 0, Value.int IntKind.i64 0] 42)) := (Below.refl _ w).alloc (Nat.le_refl _) _
    exact (((below_trans2 hal HB.out).setCell (Nat.le_refl _) _).setCell (Nat.le_refl _) _).drew
  · have e1 : lowN n d = 0 := if_neg h
    have e2 : lowD n d = 0 := if_neg h
    rw [e1, e2]
    clear e1 e2
    have h' : n < 1 ∨ d < 1 := by unfold PosT at h; omega
    clear h
    by_cases h1 : n < 1
    · have k1 : decide (n < 1) = true := by simpa using h1
      clear h'
      go_enter Try.func56, Try.ntmps56
      go_wp2_with fail
      go_returns
      exact ⟨rfl, by go_grown⟩
    · have k1 : decide (n < 1) = false := by simpa using h1
      have k2 : decide (d < 1) = true := by simp; omega
      clear h'
      go_enter Try.func56, Try.ntmps56
      go_wp2_with fail
      go_returns
      exact ⟨rfl, by go_grown⟩

/-- Too great a term. -/
def bigT (n d : Int) : Bool := decide (1099511627776 < max n d)
theorem great_any (n d : Int) (w : World) (n0 : -9223372036854775808 ≤ n) (n1 : n ≤ 9223372036854775807) (d0 : -9223372036854775808 ≤ d) (d1 : d ≤ 9223372036854775807) :
    Calls Try.prog 57 #[ratV n d] w fun e w' => e = .returned (.bool (bigT n d)) ∧ Below w.heap.size w w' := by
  unfold ratV bigT
  go_enter Try.func57, Try.ntmps57
  go_wp2_with fail
  go_ret
  exact ⟨rfl, by go_grown⟩

/-- The rate out of two terms, or that it may not be. -/
def rof (n d : Int) : Value :=
  .tuple #[if PosT n d then (if bigT (lowN n d) (lowD n d) then ratV 0 0 else ratV (lowN n d) (lowD n d)) else ratV 0 0,
    .int .i64 (if PosT n d then (if bigT (lowN n d) (lowD n d) then 10 else 0) else 1)]
theorem low_ne {n d : Int} (h : PosT n d) : 1 ≤ lowN n d ∧ 1 ≤ lowD n d := by
  unfold lowN lowD
  rw [if_pos h, if_pos h]
  have hg := gcd_pos h
  unfold PosT at h
  have h1 : (Int.gcd n d : Int) ≤ n := Int.gcd_le_left _ (by omega)
  have h2 : (Int.gcd n d : Int) ≤ d := Int.gcd_le_right _ (by omega)
  constructor
  · rw [Int.le_ediv_iff_mul_le (by omega)]; omega
  · rw [Int.le_ediv_iff_mul_le (by omega)]; omega
theorem low_zero {n d : Int} (h : ¬ PosT n d) : lowN n d = 0 ∧ lowD n d = 0 := by
  unfold lowN lowD; rw [if_neg h, if_neg h]; exact ⟨rfl, rfl⟩
set_option maxHeartbeats 1000000 in
theorem rof_any (n d : Int) (w : World) (n0 : -9223372036854775808 ≤ n) (n1 : n ≤ 9223372036854775807) (d0 : -9223372036854775808 ≤ d) (d1 : d ≤ 9223372036854775807) :
    Calls Try.prog 32 #[.int .i64 n, .int .i64 d] w fun e w' => e = .returned (rof n d) ∧ Below w.heap.size w w' := by
  have hb := low_bounds n1 d1 (n := n) (d := d)
  obtain ⟨x, hx⟩ : ∃ x, lowN n d = x := ⟨_, rfl⟩
  obtain ⟨y, hy⟩ : ∃ x, lowD n d = x := ⟨_, rfl⟩
  have HX := Lib.hid hx
  have HY := Lib.hid hy
  rw [hx, hy] at hb
  obtain ⟨b1, b2, b3, b4⟩ := hb
  obtain ⟨big, hbig⟩ : ∃ b, bigT x y = b := ⟨_, rfl⟩
  have HBIG := Lib.hid hbig
  clear hx hy hbig
  by_cases h : PosT n d
  · have hne := low_ne h
    rw [HX.out, HY.out] at hne
    have hz : (x == 0) = false := by simp; omega
    have e : rof n d = .tuple #[if big then ratV 0 0 else ratV x y, .int .i64 (if big then 10 else 0)] := by
      unfold rof; rw [if_pos h, if_pos h, HX.out, HY.out, HBIG.out]
    rw [e]
    clear e h hne
    go_enter Try.func32, Try.ntmps32
    go_wp2_with fail
    refine (least_any n d _ n0 n1 d0 d1).mono ?_
    rintro e w1 ⟨rfl, hb1⟩
    rw [HX.out, HY.out]
    unfold ratV
    go_wp2_with fail
    refine (great_any x y _ (by omega) (by omega) (by omega) (by omega)).mono ?_
    rintro e w2 ⟨rfl, hb2⟩
    rw [HBIG.out]
    have t1 := ((Two.new w _ _ _).on hb1).alloc (.cells #[.int .i64 x, .int .i64 y] 42)
    have t2 := Two.new w1 42 (.int .i64 x) (.int .i64 y)
    have t1 := t1.on hb2
    have t2 := t2.on hb2
    have c0 := t1.c0
    have c1 := t1.c1
    have f0 := t1.f0
    have f1 := t1.f1
    have c20 := t2.c0
    have c21 := t2.c1
    have T1 := Lib.hid t1
    have T2 := Lib.hid t2
    have HB1 := Lib.hid hb1
    have HB2 := Lib.hid hb2
    clear t1 t2 hb1 hb2
    have hal : Below w.heap.size w (w.alloc (Obj.cells #[Value.int IntKind.i64 0, Value.int IntKind.i64 0] 42)) := (Below.refl _ w).alloc (Nat.le_refl _) _
    have hal2 := below_trans2 (below_trans2 hal HB1.out) ((Below.refl _ w1).alloc (Nat.le_refl _) (.cells #[.int .i64 x, .int .i64 y] 42))
    have HBL := Lib.hid (below_trans2 hal2 HB2.out)
    clear hal hal2
    cases big
    · have r0 := (T1.out.set0 (.int .i64 x)).c0
      have r1 := ((T1.out.set0 (.int .i64 x)).set1 (.int .i64 y)).c1
      go_wp2_with fail
      refine bodyPost_ret (by simp [results, Try.results32, go_sem, r0, r1]; try rfl) rfl ?_
      exact ⟨rfl, ((HBL.out.setCell (Nat.le_refl _) _).setCell (Nat.le_refl _) _)⟩
    · have r0 := (T1.out.set0 (.int .i64 0)).c0
      have r1 := ((T1.out.set0 (.int .i64 0)).set1 (.int .i64 0)).c1
      go_wp2_with fail
      refine bodyPost_ret (by simp [results, Try.results32, go_sem, r0, r1]; try rfl) rfl ?_
      exact ⟨rfl, ((HBL.out.setCell (Nat.le_refl _) _).setCell (Nat.le_refl _) _)⟩
  · have hne := low_zero h
    rw [HX.out, HY.out] at hne
    obtain ⟨rfl, rfl⟩ := hne
    have e : rof n d = .tuple #[ratV 0 0, .int .i64 1] := by
      unfold rof; rw [if_neg h, if_neg h]
    rw [e]
    clear e h
    go_enter Try.func32, Try.ntmps32
    go_wp2_with fail
    refine (least_any n d _ n0 n1 d0 d1).mono ?_
    rintro e w1 ⟨rfl, hb1⟩
    rw [HX.out, HY.out]
    have t1 := ((Two.new w _ _ _).on hb1).alloc (.cells #[.int .i64 0, .int .i64 0] 42)
    have c0 := t1.c0
    have c1 := t1.c1
    have f0 := t1.f0
    have f1 := t1.f1
    have T1 := Lib.hid t1
    have HB1 := Lib.hid hb1
    clear t1 hb1
    have hal : Below w.heap.size w (w.alloc (Obj.cells #[Value.int IntKind.i64 0, Value.int IntKind.i64 0] 42)) := (Below.refl _ w).alloc (Nat.le_refl _) _
    have hal2 := Lib.hid (below_trans2 (below_trans2 hal HB1.out) ((Below.refl _ w1).alloc (Nat.le_refl _) (.cells #[.int .i64 0, .int .i64 0] 42)))
    clear hal
    have r0 := (T1.out.set0 (.int .i64 0)).c0
    have r1 := ((T1.out.set0 (.int .i64 0)).set1 (.int .i64 0)).c1
    unfold ratV
    go_wp2_with fail
    refine bodyPost_ret (by simp [results, Try.results32, go_sem, r0, r1]; try rfl) rfl ?_
    exact ⟨rfl, ((hal2.out.setCell (Nat.le_refl _) _).setCell (Nat.le_refl _) _)⟩
end Go.Proofs.Ytfbipghjhngncaa
