/- What books need of rats: May, Compare; they stand in one order. (Printed by gen/ratb.py out of the texts of chapter 02.) -/
import Derived.BigQuiet
import Derived.Deep.CutBlock
import Derived.Deep.DeepCutAuto
import Derived.Deep.QuietTactic
import Derived.Deep.RegionHeld3
import Derived.Deep.RegionWith
import Derived.Handy
import Derived.Laws.Bits64
import Derived.Laws.Bits64b
import Derived.Laws.Rows
import Derived.Laws.StructEq
import Derived.Lib.Hide
import Derived.Lib.ItoaNum
import Derived.Lib.SmallJoins
import Derived.Outline
import Derived.OwnWalk
import Derived.Scope
import Derived.ScopeJumps
import Derived.Shelf.Small.Bits
import Derived.Shelf.Spec.BitsCarry
import Derived.Shelf.Strconv.Itoa0
import Derived.Test.YtacglcpjbepfnaaBase
import Derived.Test.YtacglcpjbepfnaaShelfM
import Derived.WalkKit
import Derived.WalkMore
import Derived.WalkSmall
import Derived.WalkSpells
namespace Go.Proofs.Ytacglcpjbepfnaa
open Go.RowKit
set_option linter.unusedSimpArgs false
set_option linter.unusedVariables false
/-- Below, and no draw is undone. -/
structure Blw (B : Nat) (w w' : World) : Prop extends Below B w w' where
  dr : w.drawn ≤ w'.drawn
theorem Blw.refl (B : Nat) (w : World) : Blw B w w := ⟨Below.refl B w, Nat.le_refl _⟩
theorem Blw.trans {B : Nat} {a b c : World} (h : Blw B a b) (k : Blw B b c) : Blw B a c := ⟨h.toBelow.trans k.toBelow, Nat.le_trans h.dr k.dr⟩
theorem Blw.mono {B B' : Nat} {w w' : World} (h : Blw B w w') (hB : B' ≤ B) : Blw B' w w' := ⟨h.toBelow.mono hB, h.dr⟩
theorem Blw.drew {B : Nat} {a w : World} (h : Blw B a w) : Blw B a w.drew := ⟨h.toBelow.drew, Nat.le_succ_of_le h.dr⟩
theorem Blw.alloc {B : Nat} {a w : World} (h : Blw B a w) (hB : B ≤ w.heap.size) (o : Obj) : Blw B a (w.alloc o) := ⟨h.toBelow.alloc hB o, h.dr⟩
theorem Blw.setCell {B : Nat} {a w : World} (h : Blw B a w) {p : Addr} (hp : B ≤ p.block) (u : Value) : Blw B a (w.setCell p u) := ⟨h.toBelow.setCell hp u, by have := h.dr; simpa [World.setCell] using this⟩
theorem blw_drewN {B : Nat} {a w : World} (h : Blw B a w) (n : Nat) : Blw B a (w.drewN n) := ⟨below_drewN h.toBelow n, Nat.le_trans h.dr (Nat.le_add_right _ _)⟩
theorem cell_of {w : World} {b : Nat} {cs : Array Value} {e : TypeId} {fz : Nat × Nat} (h : w.heap[b]? = some (.cells cs e fz)) (i : Nat) (v : Value) (hi : cs[i]? = some v) : w.cell? ⟨b, i, none⟩ = some v := by
  simp [World.cell?, h, hi]
theorem blw_trans2 {w w1 w2 : World} (h1 : Blw w.heap.size w w1) (h2 : Blw w1.heap.size w1 w2) : Blw w.heap.size w w2 := h1.trans (h2.mono h1.size)
theorem run_max1 {w : World} (ts : Array TypeId) (t : TypeId) (k k' : IntKind) (x y : Int) : (Builtin.max_ ts t #[.int k x, .int k' y]).run Try.prog w = .ok (.int k (max x y)) w := by
  rw [run_max_int2]; congr 2; rw [Int.max_def]; split <;> split <;> omega
attribute [local go_sem high] run_max1

open Go.RowKit

def Two (w : World) (b : Nat) (t : TypeId) (p q : Value) : Prop := w.heap[b]? = some (.cells #[p, q] t (0, 0))
theorem Two.new (w : World) (t : TypeId) (p q : Value) : Two (w.alloc (.cells #[p, q] t)) w.heap.size t p q := heap_alloc_new w _
theorem Two.lt {w : World} {b : Nat} {t : TypeId} {p q : Value} (h : Two w b t p q) : b < w.heap.size := (Array.getElem?_eq_some_iff.1 h).1
theorem Two.below {w w' : World} {B b : Nat} {t : TypeId} {p q : Value} (h : Two w b t p q) (hb : Blw B w w') (hB : b < B) : Two w' b t p q := by
  unfold Two; rw [hb.block b hB]; exact h
theorem Two.on {w w' : World} {b : Nat} {t : TypeId} {p q : Value} (h : Two w b t p q) (hb : Blw w.heap.size w w') : Two w' b t p q := h.below hb h.lt
theorem Two.alloc {w : World} {b : Nat} {t : TypeId} {p q : Value} (h : Two w b t p q) (o : Obj) : Two (w.alloc o) b t p q := h.on ((Blw.refl _ w).alloc (Nat.le_refl _) _)
theorem Two.c0 {w : World} {b : Nat} {t : TypeId} {p q : Value} (h : Two w b t p q) : w.cell? ⟨b, 0, none⟩ = some p := cell_of h 0 p rfl
theorem Two.c1 {w : World} {b : Nat} {t : TypeId} {p q : Value} (h : Two w b t p q) : w.cell? ⟨b, 1, none⟩ = some q := cell_of h 1 q rfl
theorem Two.f0 {w : World} {b : Nat} {t : TypeId} {p q : Value} (h : Two w b t p q) : w.frozen? ⟨b, 0, none⟩ = false := frozen_of_row w b 0 _ _ h
theorem Two.f1 {w : World} {b : Nat} {t : TypeId} {p q : Value} (h : Two w b t p q) : w.frozen? ⟨b, 1, none⟩ = false := frozen_of_row w b 1 _ _ h
theorem Two.set0 {w : World} {b : Nat} {t : TypeId} {p q : Value} (h : Two w b t p q) (x : Value) : Two (w.setCell ⟨b, 0, none⟩ x) b t x q := Joins.block_setCell (i := 0) h x
theorem Two.set1 {w : World} {b : Nat} {t : TypeId} {p q : Value} (h : Two w b t p q) (x : Value) : Two (w.setCell ⟨b, 1, none⟩ x) b t p x := Joins.block_setCell (i := 1) h x
/-- What is held of a block of two cells while a region runs in whatever order. -/
def HeldTwo (W : World) (b : Nat) (t : TypeId) (p q : Value) (w : World) : Prop := w.cell? ⟨b, 0, none⟩ = some p ∧ w.cell? ⟨b, 1, none⟩ = some q ∧ Two w b t p q ∧ Blw W.heap.size W w
theorem HeldTwo.mk {W w : World} {b : Nat} {t : TypeId} {p q : Value} (h : Two w b t p q) (hb : Blw W.heap.size W w) : w.cell? ⟨b, 0, none⟩ = some p ∧ w.cell? ⟨b, 1, none⟩ = some q ∧ Two w b t p q ∧ Blw W.heap.size W w := ⟨h.c0, h.c1, h, hb⟩
theorem HeldTwo.next {W w w' : World} {b : Nat} {t : TypeId} {p q : Value} (h : w.cell? ⟨b, 0, none⟩ = some p ∧ w.cell? ⟨b, 1, none⟩ = some q ∧ Two w b t p q ∧ Blw W.heap.size W w) (hb : Blw w.heap.size w w') : w'.cell? ⟨b, 0, none⟩ = some p ∧ w'.cell? ⟨b, 1, none⟩ = some q ∧ Two w' b t p q ∧ Blw W.heap.size W w' :=
  HeldTwo.mk (h.2.2.1.on hb) (h.2.2.2.trans (hb.mono h.2.2.2.size))
theorem HeldTwo.first (w : World) (t : TypeId) (p q : Value) : (w.alloc (.cells #[p, q] t)).drew.cell? ⟨w.heap.size, 0, none⟩ = some p ∧ (w.alloc (.cells #[p, q] t)).drew.cell? ⟨w.heap.size, 1, none⟩ = some q ∧ Two (w.alloc (.cells #[p, q] t)).drew w.heap.size t p q ∧ Blw w.heap.size w (w.alloc (.cells #[p, q] t)).drew :=
  HeldTwo.mk ((Two.new w t p q).on (Blw.refl _ _).drew) (((Blw.refl _ w).alloc (Nat.le_refl _) _).drew)


open Go.RowKit

theorem gcd_step {a b : Int} (ha : 0 ≤ a) (hb : 0 < b) : Int.gcd b (a % b) = Int.gcd a b := by
  obtain ⟨A, rfl⟩ : ∃ A : Nat, a = A := ⟨a.toNat, by omega⟩
  obtain ⟨B, rfl⟩ : ∃ A : Nat, b = A := ⟨b.toNat, by omega⟩
  rw [← Int.natCast_emod]
  show Nat.gcd B (A % B) = Nat.gcd A B
  rw [Nat.gcd_comm A B, Nat.gcd_rec B A, Nat.gcd_comm]
set_option maxHeartbeats 1000000 in
theorem divisor_any (a b : Int) (w : World) (a0 : 0 ≤ a) (a1 : a ≤ 9223372036854775807) (b0 : 0 ≤ b) (b1 : b ≤ 9223372036854775807) :
    Calls Try.prog 124 #[.int .i64 a, .int .i64 b] w fun e w' => e = .returned (.int .i64 (Int.gcd a b : Int)) ∧ Blw w.heap.size w w' := by
  go_enter Try.func124, Try.ntmps124
  go_wp2_with fail
  refine wp_scope_jumps 0 (fun a' w' => Blw w.heap.size w w' ∧ ∃ (x y : Int) (u4 u5 u6 u7 u8 u9 u10 u11 : Value), a' = { tmps := #[.int .i64 x, .int .i64 y, undef, undef, u4, u5, u6, u7, u8, u9, u10, u11], defers := [] } ∧ 0 ≤ x ∧ x ≤ 9223372036854775807 ∧ 0 ≤ y ∧ y ≤ 9223372036854775807 ∧ Int.gcd x y = Int.gcd a b) (fun a' _ => (intOf (a'.tmps.getD 1 undef)).toNat) rfl ?_ ?_
  · go_wp2
    go_step3
    by_cases hz : b = 0
    · subst hz
      go_wp2_with fail
      simp only [Exit.jump]
      go_ret
      refine ⟨?_, Blw.refl _ _⟩
      rw [Int.gcd_zero_right, show (a.natAbs : Int) = a by omega]
      rfl
    · have hb : (b == 0) = false := by simpa using hz
      have hnn := Int.emod_nonneg a hz
      have hlt := Int.emod_lt_of_pos a (show 0 < b by omega)
      go_wp2_with fail
      go_quiet (fail)
      go_wp2_with fail
      go_step3
      exact ⟨rfl, blw_drewN (Blw.refl _ _) _, b, a % b, _, _, _, _, _, _, _, _, rfl, b0, b1, hnn, by omega, gcd_step a0 (by omega)⟩
  · rintro a' w' ⟨hbl, x, y, u4, u5, u6, u7, u8, u9, u10, u11, rfl, x0, x1, y0, y1, hg⟩
    have HG := Lib.hid hg
    have HB := Lib.hid hbl
    clear hg hbl
    by_cases hz : y = 0
    · subst hz
      go_wp2_with fail
      simp only [Exit.jump]
      go_ret
      refine ⟨?_, HB.out⟩
      rw [← HG.out, Int.gcd_zero_right, show (x.natAbs : Int) = x by omega]
      rfl
    · have hb : (y == 0) = false := by simpa using hz
      have hnn := Int.emod_nonneg x hz
      have hlt := Int.emod_lt_of_pos x (show 0 < y by omega)
      go_wp2_with fail
      go_quiet (fail)
      go_wp2_with fail
      go_step3
      refine ⟨rfl, ⟨blw_drewN HB.out _, y, x % y, _, _, _, _, _, _, _, _, rfl, y0, y1, hnn, by omega, by rw [gcd_step x0 (by omega)]; exact HG.out⟩, ?_⟩
      simp [intOf]
      omega

def ratV (n d : Int) : Value := .agg #[.int .i64 n, .int .i64 d]
/-- Both terms are positive. -/
def PosT (n d : Int) : Prop := 1 ≤ n ∧ 1 ≤ d
instance (n d : Int) : Decidable (PosT n d) := by unfold PosT; infer_instance
def lowN (n d : Int) : Int := if PosT n d then n / (Int.gcd n d : Int) else 0
def lowD (n d : Int) : Int := if PosT n d then d / (Int.gcd n d : Int) else 0
theorem gcd_pos {n d : Int} (h : PosT n d) : 1 ≤ (Int.gcd n d : Int) := by
  have : 0 < Int.gcd n d := Int.gcd_pos_of_ne_zero_left _ (by unfold PosT at h; omega)
  omega
theorem low_bounds {n d : Int} (n1 : n ≤ 9223372036854775807) (d1 : d ≤ 9223372036854775807) : 0 ≤ lowN n d ∧ lowN n d ≤ 9223372036854775807 ∧ 0 ≤ lowD n d ∧ lowD n d ≤ 9223372036854775807 := by
  unfold lowN lowD
  by_cases h : PosT n d
  · rw [if_pos h, if_pos h]
    have hg := gcd_pos h
    unfold PosT at h
    have h1 := Int.ediv_le_self (a := n) (Int.gcd n d : Int) (by omega)
    have h2 := Int.ediv_le_self (a := d) (Int.gcd n d : Int) (by omega)
    have h3 : 0 ≤ n / (Int.gcd n d : Int) := Int.ediv_nonneg (by omega) (by omega)
    have h4 : 0 ≤ d / (Int.gcd n d : Int) := Int.ediv_nonneg (by omega) (by omega)
    omega
  · rw [if_neg h, if_neg h]; omega
set_option maxHeartbeats 1000000 in
theorem least_any (n d : Int) (w : World) (n0 : -9223372036854775808 ≤ n) (n1 : n ≤ 9223372036854775807) (d0 : -9223372036854775808 ≤ d) (d1 : d ≤ 9223372036854775807) :
    Calls Try.prog 104 #[.int .i64 n, .int .i64 d] w fun e w' => e = .returned (ratV (lowN n d) (lowD n d)) ∧ Blw w.heap.size w w' := by
  by_cases h : PosT n d
  · have e1 : lowN n d = n / (Int.gcd n d : Int) := if_pos h
    have e2 : lowD n d = d / (Int.gcd n d : Int) := if_pos h
    have hg := gcd_pos h
    have hb := low_bounds n1 d1 (n := n) (d := d)
    have k1 : decide (n < 1) = false := by unfold PosT at h; simp; omega
    have k2 : decide (d < 1) = false := by unfold PosT at h; simp; omega
    rw [e1, e2] at hb ⊢
    have hn : 0 ≤ n := by unfold PosT at h; omega
    have hd : 0 ≤ d := by unfold PosT at h; omega
    obtain ⟨g, hgg⟩ : ∃ g : Int, g = (Int.gcd n d : Int) := ⟨_, rfl⟩
    rw [← hgg] at hb hg ⊢
    obtain ⟨x, hx⟩ : ∃ x, n / g = x := ⟨_, rfl⟩
    obtain ⟨y, hy⟩ : ∃ x, d / g = x := ⟨_, rfl⟩
    have hgb : g ≤ 9223372036854775807 := by
      have : (Int.gcd n d : Int) ≤ n := Int.gcd_le_left _ (by unfold PosT at h; omega)
      omega
    rw [hx, hy] at hb ⊢
    have hgz : (g == 0) = false := by simp; omega
    have HG := Lib.hid hgg
    clear hgg h e1 e2
    obtain ⟨b1, b2, b3, b4⟩ := hb
    go_enter Try.func104, Try.ntmps104
    go_wp2_with fail
    refine (divisor_any n d _ hn n1 hd d1).mono ?_
    rintro e w1 ⟨rfl, hb1⟩
    rw [← HG.out]
    have hbk := (Two.new w _ _ _).on hb1
    have c0 := hbk.c0
    have c1 := hbk.c1
    have f0 := hbk.f0
    have f1 := hbk.f1
    have HB := Lib.hid hb1
    have HK := Lib.hid hbk
    clear hb1 hbk
    go_wp2_with fail
    go_region
    go_wp2_with fail
    have r0 := (HK.out.set0 (.int .i64 x)).c0
    have r1 := ((HK.out.set0 (.int .i64 x)).set1 (.int .i64 y)).c1
    refine bodyPost_ret (by simp [results, Try.results104, go_sem, r0, r1]; try rfl) rfl ?_
    refine ⟨rfl, ?_⟩
    have hal : Blw w.heap.size w (w.alloc (Obj.cells #[Value.int IntKind.i64 0, Value.int IntKind.i64 0] 81)) := (Blw.refl _ w).alloc (Nat.le_refl _) _
    exact (((blw_trans2 hal HB.out).setCell (Nat.le_refl _) _).setCell (Nat.le_refl _) _).drew
  · have e1 : lowN n d = 0 := if_neg h
    have e2 : lowD n d = 0 := if_neg h
    rw [e1, e2]
    clear e1 e2
    have h' : n < 1 ∨ d < 1 := by unfold PosT at h; omega
    clear h
    by_cases h1 : n < 1
    · have k1 : decide (n < 1) = true := by simpa using h1
      clear h'
      go_enter Try.func104, Try.ntmps104
      go_wp2_with fail
      go_returns
      exact ⟨rfl, by first | (go_grown; done) | exact (Blw.refl _ _).alloc (Nat.le_refl _) _⟩
    · have k1 : decide (n < 1) = false := by simpa using h1
      have k2 : decide (d < 1) = true := by simp; omega
      clear h'
      go_enter Try.func104, Try.ntmps104
      go_wp2_with fail
      go_returns
      exact ⟨rfl, by first | (go_grown; done) | exact (Blw.refl _ _).alloc (Nat.le_refl _) _⟩

/-- Too great a term. -/
def bigT (n d : Int) : Bool := decide (1099511627776 < max n d)
theorem great_any (n d : Int) (w : World) (n0 : -9223372036854775808 ≤ n) (n1 : n ≤ 9223372036854775807) (d0 : -9223372036854775808 ≤ d) (d1 : d ≤ 9223372036854775807) :
    Calls Try.prog 105 #[ratV n d] w fun e w' => e = .returned (.bool (bigT n d)) ∧ Blw w.heap.size w w' := by
  unfold ratV bigT
  go_enter Try.func105, Try.ntmps105
  go_wp2_with fail
  go_ret
  exact ⟨rfl, by first | (go_grown; done) | exact (Blw.refl _ _).alloc (Nat.le_refl _) _⟩

theorem low_ne {n d : Int} (h : PosT n d) : 1 ≤ lowN n d ∧ 1 ≤ lowD n d := by
  unfold lowN lowD
  rw [if_pos h, if_pos h]
  have hg := gcd_pos h
  unfold PosT at h
  have h1 : (Int.gcd n d : Int) ≤ n := Int.gcd_le_left _ (by omega)
  have h2 : (Int.gcd n d : Int) ≤ d := Int.gcd_le_right _ (by omega)
  constructor
  · rw [Int.le_ediv_iff_mul_le (by omega)]; omega
  · rw [Int.le_ediv_iff_mul_le (by omega)]; omega
theorem low_zero {n d : Int} (h : ¬ PosT n d) : lowN n d = 0 ∧ lowD n d = 0 := by
  unfold lowN lowD; rw [if_neg h, if_neg h]; exact ⟨rfl, rfl⟩

open Go.RowKit
def ratSame (n e x y : Int) : Bool := decide (n = x ∧ e = y)
theorem ratSame_iff {n e x y : Int} : ratSame n e x y = true ↔ n = x ∧ e = y := decide_eq_true_iff
theorem ratSame_false {n e x y : Int} (h : ¬ (n = x ∧ e = y)) : ratSame n e x y = false := decide_eq_false h
theorem ratSame_self (n e : Int) : ratSame n e n e = true := decide_eq_true ⟨rfl, rfl⟩
theorem ratEq_run (d : Nat) (n e x y : Int) (w : World) : (Op.equalIn (d + 2) 81 (.agg #[.int .i64 n, .int .i64 e]) (.agg #[.int .i64 x, .int .i64 y])).run Try.prog w = .ok (ratSame n e x y) w := by
  rw [run_equalIn_struct w (d + 1) 81 _ _ (by kernel_rfl) (by kernel_rfl)]
  have hu := Try.underlying2
  by_cases h1 : n = x <;> by_cases h2 : e = y
  all_goals simp [ratSame, go_sem, Try.underlying81, hu, h1, h2]


open Go.RowKit

def mayB (n d : Int) : Bool := decide (PosT n d ∧ Int.gcd n d = 1 ∧ n ≤ 1099511627776 ∧ d ≤ 1099511627776)
theorem low_self {n d : Int} (h : PosT n d) : (lowN n d = n ∧ lowD n d = d) ↔ Int.gcd n d = 1 := by
  unfold lowN lowD
  rw [if_pos h, if_pos h]
  have hg := gcd_pos h
  unfold PosT at h
  constructor
  · rintro ⟨h1, -⟩
    have h2 : (Int.gcd n d : Int) ∣ n := Int.gcd_dvd_left ..
    have h3 := Int.ediv_mul_cancel h2
    rw [h1] at h3
    have h4 : n * ((Int.gcd n d : Int) - 1) = 0 := by rw [Int.mul_sub, h3]; omega
    rcases Int.mul_eq_zero.1 h4 with h5 | h5 <;> omega
  · intro h1; rw [h1]; simp
attribute [local go_sem high] ratEq_run ratSame_self
set_option maxHeartbeats 4000000 in
theorem may_any (n d : Int) (w : World) (n0 : -9223372036854775808 ≤ n) (n1 : n ≤ 9223372036854775807) (d0 : -9223372036854775808 ≤ d) (d1 : d ≤ 9223372036854775807) :
    Calls Try.prog 55 #[ratV n d] w fun e w' => e = .returned (.bool (mayB n d)) ∧ Blw w.heap.size w w' := by
  unfold ratV
  by_cases hz : n = 0 ∧ d = 0
  · obtain ⟨rfl, rfl⟩ := hz
    rw [show mayB 0 0 = false from rfl]
    go_enter Try.func55, Try.ntmps55
    go_wp2_with fail
    go_quiet (fail)
    go_wp2_with fail
    go_ret
    exact ⟨rfl, blw_drewN ((Blw.refl _ _).alloc (Nat.le_refl _) _) _⟩
  · obtain ⟨x, hx⟩ : ∃ x, lowN n d = x := ⟨_, rfl⟩
    obtain ⟨y, hy⟩ : ∃ x, lowD n d = x := ⟨_, rfl⟩
    have HX := Lib.hid hx
    have HY := Lib.hid hy
    clear hx hy
    by_cases hs : x = n ∧ y = d
    · obtain ⟨rfl, rfl⟩ := hs
      have hpos : PosT x y := by
        by_cases hp : PosT x y
        · exact hp
        · have := low_zero hp
          rw [HX.out, HY.out] at this
          exact absurd this hz
      have hxz : ratSame x y 0 0 = false := ratSame_false hz
      obtain ⟨big, hbig⟩ : ∃ b, bigT x y = b := ⟨_, rfl⟩
      have hres : mayB x y = !big := by
        have hg := (low_self hpos).1 ⟨HX.out, HY.out⟩
        unfold mayB
        rw [← hbig]
        unfold bigT
        by_cases hm : x ≤ 1099511627776 ∧ y ≤ 1099511627776
        · rw [decide_eq_true ⟨hpos, hg, hm.1, hm.2⟩, decide_eq_false (by omega)]; rfl
        · rw [decide_eq_false (fun h => hm ⟨h.2.2.1, h.2.2.2⟩), decide_eq_true (by omega)]; rfl
      rw [hres]
      clear hz hpos hres
      go_enter Try.func55, Try.ntmps55
      go_wp2_with fail
      go_region_held3 (fun wz => wz.cell? ⟨w.heap.size, 0, none⟩ = some (.int .i64 x) ∧ wz.cell? ⟨w.heap.size, 1, none⟩ = some (.int .i64 y) ∧ Two wz w.heap.size 81 (.int .i64 x) (.int .i64 y) ∧ Blw w.heap.size w wz) (first | assumption | exact HeldTwo.first _ _ _ _ | (refine HeldTwo.next (by assumption) ?_; assumption)) (first | (go_at_call 104; refine (least_any x y _ n0 n1 d0 d1).mono ?_; rintro e w2 ⟨rfl, hb2⟩; rw [HX.out, HY.out]; unfold ratV) | (go_at_call 105; refine (great_any x y _ n0 n1 d0 d1).mono ?_; rintro e w2 ⟨rfl, hb2⟩; rw [hbig]))
      rename_i hh
      go_wp2_with fail
      go_ret
      exact ⟨rfl, hh.2.2.2⟩
    · have hres : mayB n d = false := by
        unfold mayB
        refine decide_eq_false (fun h => hs ?_)
        have := (low_self h.1).2 h.2.1
        rw [HX.out, HY.out] at this
        exact this
      rw [hres]
      clear hres
      have hz0 : ratSame n d 0 0 = false := ratSame_false hz
      have hs0 : ratSame n d x y = false := ratSame_false (fun h => hs ⟨h.1.symm, h.2.symm⟩)
      clear hz hs
      go_enter Try.func55, Try.ntmps55
      go_wp2_with fail
      go_region_with (first | (go_at_call 104; refine (least_any n d _ n0 n1 d0 d1).mono ?_; rintro e w2 ⟨rfl, hb2⟩; rw [HX.out, HY.out]; unfold ratV; obtain ⟨k0, k1, -, kb⟩ := HeldTwo.next (HeldTwo.first _ _ _ _) hb2))
      all_goals (go_wp2_with fail; go_ret; exact ⟨rfl, kb⟩)

def In64p (n d : Int) : Prop := -9223372036854775808 ≤ n ∧ n ≤ 9223372036854775807 ∧ -9223372036854775808 ≤ d ∧ d ≤ 9223372036854775807
theorem may_sym {n d : Int} : mayB d n = mayB n d := by
  unfold mayB PosT
  congr 1
  rw [Int.gcd_comm d n]
  apply propext
  constructor <;> (rintro ⟨⟨h1, h2⟩, h3, h4, h5⟩; exact ⟨⟨h2, h1⟩, h3, h5, h4⟩)
theorem may_facts {n d : Int} (h : mayB n d = true) : 1 ≤ n ∧ 1 ≤ d ∧ n ≤ 1099511627776 ∧ d ≤ 1099511627776 := by
  have := of_decide_eq_true h
  exact ⟨this.1.1, this.1.2, this.2.2.1, this.2.2.2⟩

open Go.RowKit

def cmpI (x y : Int) : Int := if x < y then -1 else if y < x then 1 else 0
theorem cmpI_lt {x y : Int} (h : x < y) : cmpI x y = -1 := if_pos h
theorem cmpI_gt {x y : Int} (h : y < x) : cmpI x y = 1 := by unfold cmpI; rw [if_neg (by omega), if_pos h]
theorem cmpI_eq (x : Int) : cmpI x x = 0 := by unfold cmpI; rw [if_neg (by omega), if_neg (by omega)]
theorem compare_any (x y : Int) (w : World) :
    Calls Try.prog 109 #[.int .u64 x, .int .u64 y] w fun e w' => e = .returned (.int .i64 (cmpI x y)) ∧ w' = w := by
  rcases Int.lt_trichotomy x y with h | rfl | h
  · have k1 : decide (x < y) = true := by simpa using h
    rw [cmpI_lt h]
    go_enter Try.func109, Try.ntmps109
    go_wp2
    go_ret
    exact ⟨rfl, rfl⟩
  · rw [cmpI_eq]
    go_enter Try.func109, Try.ntmps109
    go_wp2
    go_ret
    exact ⟨rfl, rfl⟩
  · have k1 : decide (x < y) = false := by simp; omega
    have k2 : decide (y < x) = true := by simpa using h
    rw [cmpI_gt h]
    go_enter Try.func109, Try.ntmps109
    go_wp2
    go_ret
    exact ⟨rfl, rfl⟩

def orI (x y : Int) : Int := if x = 0 then y else x
set_option maxHeartbeats 1000000 in
theorem or_any (a : Option Addr) (c : Nat) (x y : Int) (w : World) (hx : Rd w a [.int .i64 x, .int .i64 y]) :
    Calls Try.prog 108 #[.slice a 2 c] w fun e w' => e = .returned (.int .i64 (orI x y)) ∧ Blw w.heap.size w w' := by
  obtain ⟨b, o, rfl, h0⟩ := hx 0 (by simp)
  have h1 := hx.get (i := 1) (by simp)
  simp only [Nat.add_zero, List.getElem_cons_zero, List.getElem_cons_succ] at h0 h1
  by_cases hz : x = 0
  · subst hz
    rw [show orI 0 y = y from if_pos rfl]
    by_cases hy : y = 0
    · subst hy
      go_enter Try.func108, Try.ntmps108
      go_wp2
      go_rounds 3
      go_ret
      exact ⟨rfl, Blw.refl _ _⟩
    · have ky : (y != 0) = true := by simpa using hy
      go_enter Try.func108, Try.ntmps108
      go_wp2
      go_rounds 2
      go_ret
      exact ⟨rfl, Blw.refl _ _⟩
  · have kx : (x != 0) = true := by simpa using hz
    rw [show orI x y = x from if_neg hz]
    go_enter Try.func108, Try.ntmps108
    go_wp2
    go_rounds 2
    go_ret
    exact ⟨rfl, Blw.refl _ _⟩

def cmpR (an ad bn bd : Int) : Int := if mayB an ad && mayB bn bd then cmpI (an * bd) (bn * ad) else 0
theorem lex (p q : Nat) : orI (cmpI ((p / 18446744073709551616 : Nat) : Int) ((q / 18446744073709551616 : Nat) : Int)) (cmpI ((p % 18446744073709551616 : Nat) : Int) ((q % 18446744073709551616 : Nat) : Int)) = cmpI (p : Int) (q : Int) := by
  have h1 := Nat.div_add_mod p 18446744073709551616
  have h2 := Nat.div_add_mod q 18446744073709551616
  have h3 := Nat.mod_lt p (show 18446744073709551616 > 0 by omega)
  have h4 := Nat.mod_lt q (show 18446744073709551616 > 0 by omega)
  generalize p / 18446744073709551616 = a at *
  generalize q / 18446744073709551616 = b at *
  generalize p % 18446744073709551616 = c at *
  generalize q % 18446744073709551616 = d at *
  rcases Nat.lt_trichotomy a b with h | rfl | h
  · rw [cmpI_lt (by omega), cmpI_lt (x := (p : Int)) (by omega)]; rfl
  · rw [cmpI_eq]
    show cmpI _ _ = _
    rcases Nat.lt_trichotomy c d with h | rfl | h
    · rw [cmpI_lt (by omega), cmpI_lt (x := (p : Int)) (by omega)]
    · obtain rfl : p = q := by omega
      rw [cmpI_eq, cmpI_eq]
    · rw [cmpI_gt (by omega), cmpI_gt (x := (p : Int)) (by omega)]
  · rw [cmpI_gt (by omega), cmpI_gt (x := (p : Int)) (by omega)]; rfl
set_option maxHeartbeats 2000000 in
theorem rcompare_any (an ad bn bd : Int) (w : World) (ha : In64p an ad) (hb : In64p bn bd) :
    Calls Try.prog 57 #[ratV an ad, ratV bn bd] w fun e w' => e = .returned (.int .i64 (cmpR an ad bn bd)) ∧ Blw w.heap.size w w' := by
  have hm := fun w => may_any an ad w ha.1 ha.2.1 ha.2.2.1 ha.2.2.2
  have hm2 := fun w => may_any bn bd w hb.1 hb.2.1 hb.2.2.1 hb.2.2.2
  have hal : Blw w.heap.size w (w.alloc (.cells #[.int .i64 an, .int .i64 ad] 81)) := (Blw.refl _ w).alloc (Nat.le_refl _) _
  have hal2 := blw_trans2 hal ((Blw.refl _ _).alloc (Nat.le_refl _) (.cells #[.int .i64 bn, .int .i64 bd] 81))
  have HAL := Lib.hid hal2
  clear hal hal2
  cases hma : mayB an ad
  · rw [show cmpR an ad bn bd = 0 by unfold cmpR; rw [hma]; rfl]
    rw [hma] at hm
    clear hma hm2
    unfold ratV at *
    go_enter Try.func57, Try.ntmps57
    go_wp2_with fail
    refine (hm _).mono ?_
    rintro e w1 ⟨rfl, hb1⟩
    have HB := Lib.hid (blw_trans2 HAL.out hb1)
    clear hb1 hm
    go_wp2_with fail
    go_ret
    exact ⟨rfl, HB.out⟩
  · cases hmb : mayB bn bd
    · rw [show cmpR an ad bn bd = 0 by unfold cmpR; rw [hma, hmb]; rfl]
      rw [hma] at hm
      rw [hmb] at hm2
      clear hma hmb
      have HM2 := Lib.hid hm2
      clear hm2
      unfold ratV at *
      go_enter Try.func57, Try.ntmps57
      go_wp2_with fail
      refine (hm _).mono ?_
      rintro e w1 ⟨rfl, hb1⟩
      have t2 := (Two.new (w.alloc (.cells #[.int .i64 an, .int .i64 ad] 81)) 81 (.int .i64 bn) (.int .i64 bd)).on hb1
      rw [World.size_alloc] at t2
      have c0 := t2.c0
      have c1 := t2.c1
      have HB := Lib.hid (blw_trans2 HAL.out hb1)
      clear hb1 hm t2
      go_wp2_with fail
      refine (HM2.out _).mono ?_
      rintro e w2 ⟨rfl, hb2⟩
      have HB2 := Lib.hid (blw_trans2 HB.out hb2)
      clear hb2
      go_wp2_with fail
      go_ret
      exact ⟨rfl, HB2.out⟩
    · obtain ⟨p1, p2, p3, p4⟩ := may_facts hma
      obtain ⟨q1, q2, q3, q4⟩ := may_facts hmb
      rw [show cmpR an ad bn bd = cmpI (an * bd) (bn * ad) by unfold cmpR; rw [hma, hmb]; rfl]
      rw [hma] at hm
      rw [hmb] at hm2
      clear hma hmb
      have HM2 := Lib.hid hm2
      clear hm2
      obtain ⟨An, rfl⟩ : ∃ A : Nat, an = A := ⟨an.toNat, by omega⟩
      obtain ⟨Ad, rfl⟩ : ∃ A : Nat, ad = A := ⟨ad.toNat, by omega⟩
      obtain ⟨Bn, rfl⟩ : ∃ A : Nat, bn = A := ⟨bn.toNat, by omega⟩
      obtain ⟨Bd, rfl⟩ : ∃ A : Nat, bd = A := ⟨bd.toNat, by omega⟩
      have HLEX := Lib.hid (lex (An * Bd) (Bn * Ad))
      obtain ⟨h1, hh1⟩ : ∃ x : Nat, x = An * Bd / 18446744073709551616 := ⟨_, rfl⟩
      obtain ⟨l1, hl1⟩ : ∃ x : Nat, x = An * Bd % 18446744073709551616 := ⟨_, rfl⟩
      obtain ⟨h2, hh2⟩ : ∃ x : Nat, x = Bn * Ad / 18446744073709551616 := ⟨_, rfl⟩
      obtain ⟨l2, hl2⟩ : ∃ x : Nat, x = Bn * Ad % 18446744073709551616 := ⟨_, rfl⟩
      rw [← hh1, ← hl1, ← hh2, ← hl2] at HLEX
      have HH1 := Lib.hid hh1
      have HL1 := Lib.hid hl1
      have HH2 := Lib.hid hh2
      have HL2 := Lib.hid hl2
      clear hh1 hl1 hh2 hl2
      rw [show (An : Int) * Bd = ((An * Bd : Nat) : Int) by simp, show (Bn : Int) * Ad = ((Bn * Ad : Nat) : Int) by simp, ← HLEX.out]
      clear HLEX
      obtain ⟨c1, hc1⟩ : ∃ x, x = cmpI (h1 : Int) h2 := ⟨_, rfl⟩
      obtain ⟨c2, hc2⟩ : ∃ x, x = cmpI (l1 : Int) l2 := ⟨_, rfl⟩
      rw [← hc1, ← hc2]
      have HC1 := Lib.hid hc1
      have HC2 := Lib.hid hc2
      clear hc1 hc2
      unfold ratV at *
      go_enter Try.func57, Try.ntmps57
      go_wp2_with fail
      refine (hm _).mono ?_
      rintro e w1 ⟨rfl, hb1⟩
      have t1 := ((Two.new w 81 (.int .i64 An) (.int .i64 Ad)).alloc (.cells #[.int .i64 Bn, .int .i64 Bd] 81)).on hb1
      have t2 := (Two.new (w.alloc (.cells #[.int .i64 An, .int .i64 Ad] 81)) 81 (.int .i64 Bn) (.int .i64 Bd)).on hb1
      rw [World.size_alloc] at t2
      have c0 := t2.c0
      have c1 := t2.c1
      have HB := Lib.hid (blw_trans2 HAL.out hb1)
      clear hb1 hm
      have T1 := Lib.hid t1
      have T2 := Lib.hid t2
      clear t1 t2
      go_wp2_with fail
      refine (HM2.out _).mono ?_
      rintro e w2 ⟨rfl, hb2⟩
      have HB2 := Lib.hid (blw_trans2 HB.out hb2)
      have T1' := T1.out.on hb2
      have T2' := T2.out.on hb2
      have c0 := T2'.c0
      have c1 := T2'.c1
      have d0 := T1'.c0
      have d1 := T1'.c1
      clear hb2 T1' T2'
      go_wp2_with fail
      refine (Try.bits_Mul64 An Bd (by omega) (by omega) _).mono ?_
      rintro e w3 ⟨rfl, rfl⟩
      rw [← HH1.out, ← HL1.out]
      go_wp2_with fail
      refine (Try.bits_Mul64 Bn Ad (by omega) (by omega) _).mono ?_
      rintro e w3 ⟨rfl, rfl⟩
      rw [← HH2.out, ← HL2.out]
      go_wp2_with fail
      refine (compare_any h1 h2 _).mono ?_
      rintro e w3 ⟨rfl, rfl⟩
      rw [← HC1.out]
      go_wp2_with fail
      refine (compare_any l1 l2 _).mono ?_
      rintro e w3 ⟨rfl, rfl⟩
      rw [← HC2.out]
      go_wp2_with fail
      refine (or_any _ 2 _ _ _ (Rd.lit _ _ _ _)).mono ?_
      rintro e w4 ⟨rfl, hb4⟩
      go_wp2_with fail
      go_ret
      exact ⟨rfl, (HB2.out.alloc (by have := HB2.out.size; omega) _).trans (hb4.mono (by have := HB2.out.size; simp; omega))⟩


theorem cmpI_swap (x y : Int) : cmpI y x = -cmpI x y := by
  rcases Int.lt_trichotomy x y with h | rfl | h
  · rw [cmpI_lt h, cmpI_gt h]; rfl
  · rw [cmpI_eq]; rfl
  · rw [cmpI_lt h, cmpI_gt h]
theorem cmpI_cases (x y : Int) : cmpI x y = -1 ∨ cmpI x y = 0 ∨ cmpI x y = 1 := by
  rcases Int.lt_trichotomy x y with h | rfl | h
  · exact .inl (cmpI_lt h)
  · exact .inr (.inl (cmpI_eq x))
  · exact .inr (.inr (cmpI_gt h))
theorem cmpI_le {x y : Int} : cmpI x y ≤ 0 ↔ x ≤ y := by
  rcases Int.lt_trichotomy x y with h | rfl | h
  · rw [cmpI_lt h]; omega
  · rw [cmpI_eq]; omega
  · rw [cmpI_gt h]; omega
theorem cmpR_swap (an ad bn bd : Int) : cmpR bn bd an ad = -cmpR an ad bn bd := by
  unfold cmpR
  rw [Bool.and_comm]
  cases mayB an ad && mayB bn bd
  · rfl
  · exact cmpI_swap _ _
theorem cmpR_cases (an ad bn bd : Int) : cmpR an ad bn bd = -1 ∨ cmpR an ad bn bd = 0 ∨ cmpR an ad bn bd = 1 := by
  unfold cmpR
  cases mayB an ad && mayB bn bd
  · exact .inr (.inl rfl)
  · exact cmpI_cases _ _
theorem cmpR_may {an ad bn bd : Int} (ha : mayB an ad = true) (hb : mayB bn bd = true) : cmpR an ad bn bd = cmpI (an * bd) (bn * ad) := by
  unfold cmpR; rw [ha, hb]; rfl
theorem cmpR_inv {an ad bn bd : Int} (ha : mayB an ad = true) (hb : mayB bn bd = true) : cmpR ad an bd bn = -cmpR an ad bn bd := by
  rw [cmpR_may ha hb, cmpR_may (by rw [may_sym]; exact ha) (by rw [may_sym]; exact hb), Int.mul_comm ad bn, Int.mul_comm bd an]
  exact cmpI_swap _ _
/-- Rates in their lowest terms that are equal have the same terms. -/
theorem cmpR_same {an ad bn bd : Int} (ha : mayB an ad = true) (hb : mayB bn bd = true) (h : cmpR an ad bn bd = 0) : an = bn ∧ ad = bd := by
  rw [cmpR_may ha hb] at h
  have he : an * bd = bn * ad := by
    rcases Int.lt_trichotomy (an * bd) (bn * ad) with h1 | h1 | h1
    · rw [cmpI_lt h1] at h; omega
    · exact h1
    · rw [cmpI_gt h1] at h; omega
  obtain ⟨⟨p1, p2⟩, pg, -, -⟩ := of_decide_eq_true ha
  obtain ⟨⟨q1, q2⟩, qg, -, -⟩ := of_decide_eq_true hb
  have e1 : an.natAbs ∣ bn.natAbs * ad.natAbs := by rw [← Int.natAbs_mul]; exact Int.natAbs_dvd_natAbs.2 ⟨bd, he.symm⟩
  have e2 : bn.natAbs ∣ an.natAbs * bd.natAbs := by rw [← Int.natAbs_mul]; exact Int.natAbs_dvd_natAbs.2 ⟨ad, he⟩
  have h1 := Nat.le_of_dvd (by omega) (Nat.Coprime.dvd_of_dvd_mul_right pg e1)
  have h2 := Nat.le_of_dvd (by omega) (Nat.Coprime.dvd_of_dvd_mul_right qg e2)
  obtain rfl : an = bn := by omega
  refine ⟨rfl, ?_⟩
  have h3 : an * (bd - ad) = 0 := by rw [Int.mul_sub, he]; omega
  rcases Int.mul_eq_zero.1 h3 with h4 | h4 <;> omega
theorem cmpR_trans {an ad bn bd cn cd : Int} (ha : mayB an ad = true) (hb : mayB bn bd = true) (hc : mayB cn cd = true) (h1 : cmpR an ad bn bd ≤ 0) (h2 : cmpR bn bd cn cd ≤ 0) : cmpR an ad cn cd ≤ 0 := by
  rw [cmpR_may ha hb, cmpI_le] at h1
  rw [cmpR_may hb hc, cmpI_le] at h2
  rw [cmpR_may ha hc, cmpI_le]
  obtain ⟨p1, p2, -, -⟩ := may_facts ha
  obtain ⟨q1, q2, -, -⟩ := may_facts hb
  obtain ⟨r1, r2, -, -⟩ := may_facts hc
  have k1 := Int.mul_le_mul_of_nonneg_right h1 (show 0 ≤ cd by omega)
  have k2 := Int.mul_le_mul_of_nonneg_right h2 (show 0 ≤ ad by omega)
  have k3 : an * cd * bd ≤ cn * ad * bd := by
    have e1 : an * bd * cd = an * cd * bd := Int.mul_right_comm _ _ _
    have e2 : bn * ad * cd = bn * cd * ad := Int.mul_right_comm _ _ _
    have e3 : cn * bd * ad = cn * ad * bd := Int.mul_right_comm _ _ _
    omega
  exact Int.le_of_mul_le_mul_right k3 (by omega)


end Go.Proofs.Ytacglcpjbepfnaa
