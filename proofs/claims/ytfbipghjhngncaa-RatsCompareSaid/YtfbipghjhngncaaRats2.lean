/- rats: which rates may be; their order; what comes of a number by them. -/
import Derived.Test.YtfbipghjhngncaaRats
import Derived.Test.YtfbipghjhngncaaRatEq
import Derived.Deep.RegionWith
import Derived.Deep.RegionHeld3
namespace Go.Proofs.Ytfbipghjhngncaa
open Go.RowKit

def mayB (n d : Int) : Bool := decide (PosT n d ∧ Int.gcd n d = 1 ∧ n ≤ 1099511627776 ∧ d ≤ 1099511627776)
theorem low_self {n d : Int} (h : PosT n d) : (lowN n d = n ∧ lowD n d = d) ↔ Int.gcd n d = 1 := by
  unfold lowN lowD
  rw [if_pos h, if_pos h]
  have hg := gcd_pos h
  unfold PosT at h
  constructor
  · rintro ⟨h1, -⟩
    have h2 : (Int.gcd n d : Int) ∣ n := Int.gcd_dvd_left ..
    have h3 := Int.ediv_mul_cancel h2
    rw [h1] at h3
    have h4 : n * ((Int.gcd n d : Int) - 1) = 0 := by rw [Int.mul_sub, h3]; omega
    rcases Int.mul_eq_zero.1 h4 with h5 | h5 <;> omega
  · intro h1; rw [h1]; simp
attribute [local go_sem high] ratEq_run ratSame_self
set_option maxHeartbeats 4000000 in
theorem may_any (n d : Int) (w : World) (n0 : -9223372036854775808 ≤ n) (n1 : n ≤ 9223372036854775807) (d0 : -9223372036854775808 ≤ d) (d1 : d ≤ 9223372036854775807) :
    Calls Try.prog 34 #[ratV n d] w fun e w' => e = .returned (.bool (mayB n d)) ∧ Below w.heap.size w w' := by
  unfold ratV
  by_cases hz : n = 0 ∧ d = 0
  · obtain ⟨rfl, rfl⟩ := hz
    rw [show mayB 0 0 = false from rfl]
    go_enter Try.func34, Try.ntmps34
    go_wp2_with fail
    go_quiet (fail)
    go_wp2_with fail
    go_ret
    exact ⟨rfl, below_drewN ((Below.refl _ _).alloc (Nat.le_refl _) _) _⟩
  · obtain ⟨x, hx⟩ : ∃ x, lowN n d = x := ⟨_, rfl⟩
    obtain ⟨y, hy⟩ : ∃ x, lowD n d = x := ⟨_, rfl⟩
    have HX := Lib.hid hx
    have HY := Lib.hid hy
    clear hx hy
    by_cases hs : x = n ∧ y = d
    · obtain ⟨rfl, rfl⟩ := hs
      have hpos : PosT x y := by
        by_cases hp : PosT x y
        · exact hp
        · have := low_zero hp
          rw [HX.out, HY.out] at this
          exact absurd this hz
      have hxz : ratSame x y 0 0 = false := ratSame_false hz
      obtain ⟨big, hbig⟩ : ∃ b, bigT x y = b := ⟨_, rfl⟩
      have hres : mayB x y = !big := by
        have hg := (low_self hpos).1 ⟨HX.out, HY.out⟩
        unfold mayB
        rw [← hbig]
        unfold bigT
        by_cases hm : x ≤ 1099511627776 ∧ y ≤ 1099511627776
        · rw [decide_eq_true ⟨hpos, hg, hm.1, hm.2⟩, decide_eq_false (by omega)]; rfl
        · rw [decide_eq_false (fun h => hm ⟨h.2.2.1, h.2.2.2⟩), decide_eq_true (by omega)]; rfl
      rw [hres]
      clear hz hpos hres
      go_enter Try.func34, Try.ntmps34
      go_wp2_with fail
      go_region_held3 (fun wz => wz.cell? ⟨w.heap.size, 0, none⟩ = some (.int .i64 x) ∧ wz.cell? ⟨w.heap.size, 1, none⟩ = some (.int .i64 y) ∧ Two wz w.heap.size 42 (.int .i64 x) (.int .i64 y) ∧ Below w.heap.size w wz) (first | assumption | exact HeldTwo.first _ _ _ _ | (refine HeldTwo.next (by assumption) ?_; assumption)) (first | (go_at_call 56; refine (least_any x y _ n0 n1 d0 d1).mono ?_; rintro e w2 ⟨rfl, hb2⟩; rw [HX.out, HY.out]; unfold ratV) | (go_at_call 57; refine (great_any x y _ n0 n1 d0 d1).mono ?_; rintro e w2 ⟨rfl, hb2⟩; rw [hbig]))
      rename_i hh
      go_wp2_with fail
      go_ret
      exact ⟨rfl, hh.2.2.2⟩
    · have hres : mayB n d = false := by
        unfold mayB
        refine decide_eq_false (fun h => hs ?_)
        have := (low_self h.1).2 h.2.1
        rw [HX.out, HY.out] at this
        exact this
      rw [hres]
      clear hres
      have hz0 : ratSame n d 0 0 = false := ratSame_false hz
      have hs0 : ratSame n d x y = false := ratSame_false (fun h => hs ⟨h.1.symm, h.2.symm⟩)
      clear hz hs
      go_enter Try.func34, Try.ntmps34
      go_wp2_with fail
      go_region_with (first | (go_at_call 56; refine (least_any n d _ n0 n1 d0 d1).mono ?_; rintro e w2 ⟨rfl, hb2⟩; rw [HX.out, HY.out]; unfold ratV; obtain ⟨k0, k1, -, kb⟩ := HeldTwo.next (HeldTwo.first _ _ _ _) hb2))
      all_goals (go_wp2_with fail; go_ret; exact ⟨rfl, kb⟩)
end Go.Proofs.Ytfbipghjhngncaa
