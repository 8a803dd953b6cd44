/- countinghouseref01: Down, Up, as the program's. -/
import Derived.Test.YtfbipghjhngncaaRef01f
namespace Go.Proofs.Ytfbipghjhngncaa
open Go.RowKit
set_option linter.unusedSimpArgs false
set_option linter.unusedVariables false

theorem by_down (a n d : Int) (ha : I64 a) (hn : I64 n) (hd : I64 d) : Ans 55 #[.int .i64 a, .int .i64 n, .int .i64 d, .bool false] (.tuple #[.int .i64 (downN a n d), .int .i64 (downE a n d)]) := by
  by_cases h : badBy a n d
  · rw [show downN a n d = 0 from if_pos h, show downE a n d = 1 from if_pos h]
    exact rby_bad a n d false h
  · rw [show downN a n d = num64 (a * n / d) from if_neg h, show downE a n d = err64 (a * n / d) from if_neg h]
    unfold badBy at h
    unfold I64 at *
    obtain ⟨A, rfl⟩ : ∃ A : Nat, a = A := ⟨a.toNat, by omega⟩
    obtain ⟨N, rfl⟩ : ∃ A : Nat, n = A := ⟨n.toNat, by omega⟩
    obtain ⟨D, rfl⟩ : ∃ A : Nat, d = A := ⟨d.toNat, by omega⟩
    have e : ((A : Int) * N / D) = ((A * N / D : Nat) : Int) := by simp
    rw [e]
    exact rby_down A N D (by omega) (by omega) (by omega) (by omega)
theorem by_up (a n d : Int) (ha : I64 a) (hn : I64 n) (hd : I64 d) : Ans 55 #[.int .i64 a, .int .i64 n, .int .i64 d, .bool true] (.tuple #[.int .i64 (upN a n d), .int .i64 (upE a n d)]) := by
  by_cases h : badBy a n d
  · rw [show upN a n d = 0 from if_pos h, show upE a n d = 1 from if_pos h]
    exact rby_bad a n d true h
  · rw [show upN a n d = num64 (raised (a * n) d) from if_neg h, show upE a n d = err64 (raised (a * n) d) from if_neg h]
    unfold badBy at h
    unfold I64 at *
    obtain ⟨A, rfl⟩ : ∃ A : Nat, a = A := ⟨a.toNat, by omega⟩
    obtain ⟨N, rfl⟩ : ∃ A : Nat, n = A := ⟨n.toNat, by omega⟩
    obtain ⟨D, rfl⟩ : ∃ A : Nat, d = A := ⟨d.toNat, by omega⟩
    have e : raised ((A : Int) * N) D = (((if A * N % D = 0 then A * N / D else A * N / D + 1) : Nat) : Int) := by
      unfold raised
      have e1 : ((A : Int) * N) % D = ((A * N % D : Nat) : Int) := by simp
      have e2 : ((A : Int) * N) / D = ((A * N / D : Nat) : Int) := by simp
      rw [e1, e2]
      by_cases hz : A * N % D = 0
      · rw [if_pos hz, if_pos (by omega)]
      · rw [if_neg hz, if_neg (by omega)]; rfl
    rw [e]
    exact rby_up A N D (by omega) (by omega) (by omega) (by omega)
theorem rdown_ans (a n d : Int) (ha : I64 a) (hn : I64 n) (hd : I64 d) : Ans 27 #[.int .i64 a, .int .i64 n, .int .i64 d] (.tuple #[.int .i64 (downN a n d), .int .i64 (downE a n d)]) := by
  intro w
  have h1 := by_down a n d ha hn hd
  clear ha hn hd
  go_enter Try.func27, Try.ntmps27
  go_wp2_with ((with_reducible refine Ans.call (by assumption) ?_); intro _)
  go_ret2
  exact ⟨rfl, (by repeat (first | exact Ext.refl _ | refine Ext.alloc ?_ _ | refine Ext.ext ?_ _ | refine Ext.drew ?_))⟩
theorem rup_ans (a n d : Int) (ha : I64 a) (hn : I64 n) (hd : I64 d) : Ans 29 #[.int .i64 a, .int .i64 n, .int .i64 d] (.tuple #[.int .i64 (upN a n d), .int .i64 (upE a n d)]) := by
  intro w
  have h1 := by_up a n d ha hn hd
  clear ha hn hd
  go_enter Try.func29, Try.ntmps29
  go_wp2_with ((with_reducible refine Ans.call (by assumption) ?_); intro _)
  go_ret2
  exact ⟨rfl, (by repeat (first | exact Ext.refl _ | refine Ext.alloc ?_ _ | refine Ext.ext ?_ _ | refine Ext.drew ?_))⟩
theorem down_ans (a n d : Int) (ha : I64 a) (hn : I64 n) (hd : I64 d) : Ans 26 #[.int .i64 a, .int .i64 n, .int .i64 d] (.tuple #[.int .i64 (downN a n d), .int .i64 (downE a n d)]) := fun w => down_any a n d w ha.1 ha.2 hn.1 hn.2 hd.1 hd.2
theorem up_ans (a n d : Int) (ha : I64 a) (hn : I64 n) (hd : I64 d) : Ans 28 #[.int .i64 a, .int .i64 n, .int .i64 d] (.tuple #[.int .i64 (upN a n d), .int .i64 (upE a n d)]) := fun w => up_any a n d w ha.1 ha.2 hn.1 hn.2 hd.1 hd.2
end Go.Proofs.Ytfbipghjhngncaa
