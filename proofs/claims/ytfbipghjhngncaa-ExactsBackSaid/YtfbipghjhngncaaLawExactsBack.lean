/- What is added is taken off again: the walk. -/
import Derived.Test.YtfbipghjhngncaaLives01
namespace Go.Proofs.Ytfbipghjhngncaa
open Go.RowKit

set_option maxRecDepth 100000 in
set_option maxHeartbeats 8000000 in
theorem exactsBack_law (a b : Int) (w : World) (a0 : -9223372036854775808 ≤ a) (a1 : a ≤ 9223372036854775807) (b0 : -9223372036854775808 ≤ b) (b1 : b ≤ 9223372036854775807) :
    Calls Try.prog 6 #[.int .i64 a, .int .i64 b] w fun e w' => e = .returned (.bool true) ∧ Below w.heap.size w w' := by
  have hone : num64 (a * 1) = a ∧ err64 (a * 1) = 0 := by rw [Int.mul_one]; exact num64_in a0 a1
  have hsum : sumTo [a, b, a, b] = (a + b) * 2 := by simp only [sumTo, List.foldl]; omega
  have HONE := Lib.hid hone
  have HSUM := Lib.hid hsum
  clear hone hsum
  by_cases hs : -9223372036854775808 ≤ a + b ∧ a + b ≤ 9223372036854775807 <;> by_cases hd : -9223372036854775808 ≤ a - b ∧ a - b ≤ 9223372036854775807
  · obtain ⟨s0, s1⟩ := hs
    have HS := Lib.hid (num64_in s0 s1)
    have HSB : Hid (num64 (a + b - b) = a ∧ err64 (a + b - b) = 0) := Lib.hid (by rw [show a + b - b = a by omega]; exact num64_in a0 a1)
    obtain ⟨d0, d1⟩ := hd
    have HD := Lib.hid (num64_in d0 d1)
    have HDB : Hid (num64 (a - b + b) = a ∧ err64 (a - b + b) = 0) := Lib.hid (by rw [show a - b + b = a by omega]; exact num64_in a0 a1)
    go_enter Try.func6, Try.ntmps6
    go_wp2_with fail
    refine (add_any a b _ a0 a1 b0 b1).mono ?_
    rintro e w1 ⟨rfl, rfl⟩
    rw [HS.out.1, HS.out.2]
    unfold pairV
    go_wp2_with fail
    refine (sub_any (a + b) b _ s0 s1 b0 b1).mono ?_
    rintro e w1 ⟨rfl, rfl⟩
    rw [HSB.out.1, HSB.out.2]
    unfold pairV
    go_wp2_with fail
    refine (sub_any a b _ a0 a1 b0 b1).mono ?_
    rintro e w1 ⟨rfl, rfl⟩
    rw [HD.out.1, HD.out.2]
    unfold pairV
    go_wp2_with fail
    refine (add_any (a - b) b _ d0 d1 b0 b1).mono ?_
    rintro e w1 ⟨rfl, rfl⟩
    rw [HDB.out.1, HDB.out.2]
    unfold pairV
    go_wp2_with fail
    refine (mul_any a 1 _ a0 a1 (by omega) (by omega)).mono ?_
    rintro e w2 ⟨rfl, hb2⟩
    rw [HONE.out.1, HONE.out.2]
    unfold pairV
    go_wp2_with fail
    refine (sum_any _ 4 4 [a, b, a, b] _ rfl (by simp [maxLen]) (Rd.lit _ _ _ _) (by unfold In64; simp; omega)).mono ?_
    rintro e w3 ⟨rfl, hb3⟩
    rw [HSUM.out]
    obtain ⟨t, ht⟩ : ∃ t, num64 ((a + b) * 2) = t := ⟨_, rfl⟩
    obtain ⟨u, hu⟩ : ∃ u, err64 ((a + b) * 2) = u := ⟨_, rfl⟩
    rw [ht, hu]
    have HT := Lib.hid ht
    have HU := Lib.hid hu
    clear ht hu
    unfold pairV
    go_wp2_with fail
    refine (mul_any (a + b) 2 _ s0 s1 (by omega) (by omega)).mono ?_
    rintro e w4 ⟨rfl, hb4⟩
    rw [HT.out, HU.out]
    unfold pairV
    go_wp2_with fail
    refine (lives01_any _).mono ?_
    rintro e w5 ⟨rfl, hb5⟩
    go_wp2_with fail
    go_ret
    refine ⟨rfl, ?_⟩
    have b3 : Below w2.heap.size w2 w3 := ((Below.refl _ w2).alloc (Nat.le_refl _) _).trans (hb3.mono (by simp))
    exact below_trans2 (below_trans2 (below_trans2 hb2 b3) hb4) hb5
  · obtain ⟨s0, s1⟩ := hs
    have HS := Lib.hid (num64_in s0 s1)
    have HSB : Hid (num64 (a + b - b) = a ∧ err64 (a + b - b) = 0) := Lib.hid (by rw [show a + b - b = a by omega]; exact num64_in a0 a1)
    have HD := Lib.hid (num64_out hd)
    clear hd
    go_enter Try.func6, Try.ntmps6
    go_wp2_with fail
    refine (add_any a b _ a0 a1 b0 b1).mono ?_
    rintro e w1 ⟨rfl, rfl⟩
    rw [HS.out.1, HS.out.2]
    unfold pairV
    go_wp2_with fail
    refine (sub_any (a + b) b _ s0 s1 b0 b1).mono ?_
    rintro e w1 ⟨rfl, rfl⟩
    rw [HSB.out.1, HSB.out.2]
    unfold pairV
    go_wp2_with fail
    refine (sub_any a b _ a0 a1 b0 b1).mono ?_
    rintro e w1 ⟨rfl, rfl⟩
    rw [HD.out.1, HD.out.2]
    unfold pairV
    go_wp2_with fail
    refine (mul_any a 1 _ a0 a1 (by omega) (by omega)).mono ?_
    rintro e w2 ⟨rfl, hb2⟩
    rw [HONE.out.1, HONE.out.2]
    unfold pairV
    go_wp2_with fail
    refine (sum_any _ 4 4 [a, b, a, b] _ rfl (by simp [maxLen]) (Rd.lit _ _ _ _) (by unfold In64; simp; omega)).mono ?_
    rintro e w3 ⟨rfl, hb3⟩
    rw [HSUM.out]
    obtain ⟨t, ht⟩ : ∃ t, num64 ((a + b) * 2) = t := ⟨_, rfl⟩
    obtain ⟨u, hu⟩ : ∃ u, err64 ((a + b) * 2) = u := ⟨_, rfl⟩
    rw [ht, hu]
    have HT := Lib.hid ht
    have HU := Lib.hid hu
    clear ht hu
    unfold pairV
    go_wp2_with fail
    refine (mul_any (a + b) 2 _ s0 s1 (by omega) (by omega)).mono ?_
    rintro e w4 ⟨rfl, hb4⟩
    rw [HT.out, HU.out]
    unfold pairV
    go_wp2_with fail
    refine (lives01_any _).mono ?_
    rintro e w5 ⟨rfl, hb5⟩
    go_wp2_with fail
    go_ret
    refine ⟨rfl, ?_⟩
    have b3 : Below w2.heap.size w2 w3 := ((Below.refl _ w2).alloc (Nat.le_refl _) _).trans (hb3.mono (by simp))
    exact below_trans2 (below_trans2 (below_trans2 hb2 b3) hb4) hb5
  · have HS := Lib.hid (num64_out hs)
    clear hs
    obtain ⟨d0, d1⟩ := hd
    have HD := Lib.hid (num64_in d0 d1)
    have HDB : Hid (num64 (a - b + b) = a ∧ err64 (a - b + b) = 0) := Lib.hid (by rw [show a - b + b = a by omega]; exact num64_in a0 a1)
    go_enter Try.func6, Try.ntmps6
    go_wp2_with fail
    refine (add_any a b _ a0 a1 b0 b1).mono ?_
    rintro e w1 ⟨rfl, rfl⟩
    rw [HS.out.1, HS.out.2]
    unfold pairV
    go_wp2_with fail
    refine (sub_any a b _ a0 a1 b0 b1).mono ?_
    rintro e w1 ⟨rfl, rfl⟩
    rw [HD.out.1, HD.out.2]
    unfold pairV
    go_wp2_with fail
    refine (add_any (a - b) b _ d0 d1 b0 b1).mono ?_
    rintro e w1 ⟨rfl, rfl⟩
    rw [HDB.out.1, HDB.out.2]
    unfold pairV
    go_wp2_with fail
    refine (mul_any a 1 _ a0 a1 (by omega) (by omega)).mono ?_
    rintro e w2 ⟨rfl, hb2⟩
    rw [HONE.out.1, HONE.out.2]
    unfold pairV
    go_wp2_with fail
    refine (sum_any _ 4 4 [a, b, a, b] _ rfl (by simp [maxLen]) (Rd.lit _ _ _ _) (by unfold In64; simp; omega)).mono ?_
    rintro e w3 ⟨rfl, hb3⟩
    rw [HSUM.out]
    obtain ⟨t, ht⟩ : ∃ t, num64 ((a + b) * 2) = t := ⟨_, rfl⟩
    obtain ⟨u, hu⟩ : ∃ u, err64 ((a + b) * 2) = u := ⟨_, rfl⟩
    rw [ht, hu]
    have HT := Lib.hid ht
    have HU := Lib.hid hu
    clear ht hu
    unfold pairV
    go_wp2_with fail
    refine (mul_any 0 2 _ (by omega) (by omega) (by omega) (by omega)).mono ?_
    rintro e w4 ⟨rfl, hb4⟩
    rw [show num64 (0 * 2) = 0 from rfl, show err64 (0 * 2) = 0 from rfl]
    unfold pairV
    go_wp2_with fail
    refine (lives01_any _).mono ?_
    rintro e w5 ⟨rfl, hb5⟩
    go_wp2_with fail
    go_ret
    refine ⟨rfl, ?_⟩
    have b3 : Below w2.heap.size w2 w3 := ((Below.refl _ w2).alloc (Nat.le_refl _) _).trans (hb3.mono (by simp))
    exact below_trans2 (below_trans2 (below_trans2 hb2 b3) hb4) hb5
  · have HS := Lib.hid (num64_out hs)
    clear hs
    have HD := Lib.hid (num64_out hd)
    clear hd
    go_enter Try.func6, Try.ntmps6
    go_wp2_with fail
    refine (add_any a b _ a0 a1 b0 b1).mono ?_
    rintro e w1 ⟨rfl, rfl⟩
    rw [HS.out.1, HS.out.2]
    unfold pairV
    go_wp2_with fail
    refine (sub_any a b _ a0 a1 b0 b1).mono ?_
    rintro e w1 ⟨rfl, rfl⟩
    rw [HD.out.1, HD.out.2]
    unfold pairV
    go_wp2_with fail
    refine (mul_any a 1 _ a0 a1 (by omega) (by omega)).mono ?_
    rintro e w2 ⟨rfl, hb2⟩
    rw [HONE.out.1, HONE.out.2]
    unfold pairV
    go_wp2_with fail
    refine (sum_any _ 4 4 [a, b, a, b] _ rfl (by simp [maxLen]) (Rd.lit _ _ _ _) (by unfold In64; simp; omega)).mono ?_
    rintro e w3 ⟨rfl, hb3⟩
    rw [HSUM.out]
    obtain ⟨t, ht⟩ : ∃ t, num64 ((a + b) * 2) = t := ⟨_, rfl⟩
    obtain ⟨u, hu⟩ : ∃ u, err64 ((a + b) * 2) = u := ⟨_, rfl⟩
    rw [ht, hu]
    have HT := Lib.hid ht
    have HU := Lib.hid hu
    clear ht hu
    unfold pairV
    go_wp2_with fail
    refine (mul_any 0 2 _ (by omega) (by omega) (by omega) (by omega)).mono ?_
    rintro e w4 ⟨rfl, hb4⟩
    rw [show num64 (0 * 2) = 0 from rfl, show err64 (0 * 2) = 0 from rfl]
    unfold pairV
    go_wp2_with fail
    refine (lives01_any _).mono ?_
    rintro e w5 ⟨rfl, hb5⟩
    go_wp2_with fail
    go_ret
    refine ⟨rfl, ?_⟩
    have b3 : Below w2.heap.size w2 w3 := ((Below.refl _ w2).alloc (Nat.le_refl _) _).trans (hb3.mono (by simp))
    exact below_trans2 (below_trans2 (below_trans2 hb2 b3) hb4) hb5
end Go.Proofs.Ytfbipghjhngncaa
