/- The chapter's example of exact numbers: it holds. -/
import Derived.Test.YtfbipghjhngncaaSum
namespace Go.Proofs.Ytfbipghjhngncaa
open Go.RowKit

theorem below_trans2 {w w1 w2 : World} (h1 : Below w.heap.size w w1) (h2 : Below w1.heap.size w1 w2) : Below w.heap.size w w2 := h1.trans (h2.mono h1.size)
set_option maxRecDepth 100000 in
set_option maxHeartbeats 2000000 in
theorem lives01_any (w : World) : Calls Try.prog 21 #[] w fun e w' => e = .returned (.bool true) ∧ Below w.heap.size w w' := by
  go_enter Try.func21, Try.ntmps21
  go_wp2_with fail
  refine (add_any 1 2 _ (by omega) (by omega) (by omega) (by omega)).mono ?_
  rintro e w1 ⟨rfl, rfl⟩
  rw [show pairV (num64 (1 + 2)) (err64 (1 + 2)) = .tuple #[.int .i64 3, .int .i64 0] from rfl]
  go_wp2_with fail
  refine (add_any 9223372036854775807 1 _ (by omega) (by omega) (by omega) (by omega)).mono ?_
  rintro e w1 ⟨rfl, rfl⟩
  rw [show pairV (num64 (9223372036854775807 + 1)) (err64 (9223372036854775807 + 1)) = .tuple #[.int .i64 0, .int .i64 10] from rfl]
  go_wp2_with fail
  refine (sub_any (-9223372036854775808) 1 _ (by omega) (by omega) (by omega) (by omega)).mono ?_
  rintro e w1 ⟨rfl, rfl⟩
  rw [show pairV (num64 (-9223372036854775808 - 1)) (err64 (-9223372036854775808 - 1)) = .tuple #[.int .i64 0, .int .i64 10] from rfl]
  go_wp2_with fail
  refine (mul_any (-4294967296) 2147483648 _ (by omega) (by omega) (by omega) (by omega)).mono ?_
  rintro e w2 ⟨rfl, hb2⟩
  rw [show pairV (num64 (-4294967296 * 2147483648)) (err64 (-4294967296 * 2147483648)) = .tuple #[.int .i64 (-9223372036854775808), .int .i64 0] from rfl]
  go_wp2_with fail
  refine (mul_any 4294967296 2147483648 _ (by omega) (by omega) (by omega) (by omega)).mono ?_
  rintro e w3 ⟨rfl, hb3⟩
  rw [show pairV (num64 (4294967296 * 2147483648)) (err64 (4294967296 * 2147483648)) = .tuple #[.int .i64 0, .int .i64 10] from rfl]
  go_wp2_with fail
  refine (sum_any _ 3 3 [9223372036854775807, 9, -9] _ rfl (by simp [maxLen]) (Rd.lit _ _ _ _) (by unfold In64; simp)).mono ?_
  rintro e w4 ⟨rfl, hb4⟩
  rw [show pairV (num64 (sumTo [9223372036854775807, 9, -9])) (err64 (sumTo [9223372036854775807, 9, -9])) = .tuple #[.int .i64 9223372036854775807, .int .i64 0] from rfl]
  go_wp2_with fail
  refine (down_any 7 3 2 _ (by omega) (by omega) (by omega) (by omega) (by omega) (by omega)).mono ?_
  rintro e w5 ⟨rfl, hb5⟩
  rw [show pairV (downN 7 3 2) (downE 7 3 2) = .tuple #[.int .i64 10, .int .i64 0] from rfl]
  go_wp2_with fail
  refine (up_any 7 3 2 _ (by omega) (by omega) (by omega) (by omega) (by omega) (by omega)).mono ?_
  rintro e w6 ⟨rfl, hb6⟩
  rw [show pairV (upN 7 3 2) (upE 7 3 2) = .tuple #[.int .i64 11, .int .i64 0] from rfl]
  go_wp2_with fail
  refine (up_any 9223372036854775807 2 1 _ (by omega) (by omega) (by omega) (by omega) (by omega) (by omega)).mono ?_
  rintro e w7 ⟨rfl, hb7⟩
  rw [show pairV (upN 9223372036854775807 2 1) (upE 9223372036854775807 2 1) = .tuple #[.int .i64 0, .int .i64 10] from rfl]
  go_wp2_with fail
  refine (down_any 1 1 0 _ (by omega) (by omega) (by omega) (by omega) (by omega) (by omega)).mono ?_
  rintro e w8 ⟨rfl, hb8⟩
  rw [show pairV (downN 1 1 0) (downE 1 1 0) = .tuple #[.int .i64 0, .int .i64 1] from rfl]
  go_wp2_with fail
  go_ret
  refine ⟨rfl, ?_⟩
  have b23 := below_trans2 hb2 hb3
  have b4 : Below w3.heap.size w3 w4 := ((Below.refl _ w3).alloc (Nat.le_refl _) _).trans (hb4.mono (by simp))
  exact below_trans2 (below_trans2 (below_trans2 (below_trans2 (below_trans2 b23 b4) hb5) hb6) hb7) hb8
end Go.Proofs.Ytfbipghjhngncaa
