/- What sums.More and sums.Of compute, for every list of bytes. -/
import Derived.Test.YtlinhcbjljcgbaaDoorRows
import Derived.Test.YtlinhcbjljcgbaaDoorBits
import Derived.Test.YtlinhcbjljcgbaaDoorCrc
import Derived.WalkKit
import Derived.WalkSpells
import Derived.Handy
import Derived.Outline
import Derived.Lib.Hide
namespace Go.Proofs.YtlinhcbjljcgbaaDoor
open Go.RowKit
attribute [local go_sem high] bits32_xor bits32_and15 bits32_shr4 bits8_shr4 bits8_32 bits32_not I32_0 I32_15

def TabAt (w : World) : Prop := ∀ x : BitVec 32, w.cell? ⟨0, (I32 (x &&& 15#32)).toNat, none⟩ = some (.int .u32 (I32 (tab x)))

set_option maxHeartbeats 400000 in
theorem more_any (s : BitVec 32) (a : Option Addr) (n cap : Nat) (zs : List (BitVec 8)) (w : World) (hn : n = zs.length) (hl : n ≤ maxLen)
    (hc : Rd w a (zs.map B8)) (ht : TabAt w) :
    Calls Tryd.prog 15 #[.int .u32 (I32 s), .slice a n cap] w fun e w' => e = .returned (.int .u32 (I32 (more s zs))) ∧ w = w' := by
  subst hn
  unfold maxLen at hl
  have HC := Lib.hid hc; clear hc
  have HT := Lib.hid ht; clear ht
  go_enter Tryd.func15, Tryd.ntmps15
  go_wp2
  go_loop [5, 12] (fun n i => ∃ k : Nat, k ≤ zs.length ∧ i = .int .i64 k ∧ n = .int .u32 (I32 ((zs.take k).foldl stepB (~~~ s)))) (fun _ i => zs.length - (intOf i).toNat)
  case atStart => exact ⟨0, Nat.zero_le _, rfl, rfl⟩
  case round =>
    obtain ⟨k, hk, rfl, rfl⟩ := hrel
    by_cases hlt : k < zs.length
    · obtain ⟨b, o, rfl, hcell⟩ := HC.out k (by simpa using hlt)
      simp only [List.getElem_map, B8] at hcell
      have ht := HT.out
      unfold TabAt at ht
      generalize hg : (zs.take k).foldl stepB (~~~ s) = c
      have HG := Lib.hid hg; clear hg
      go_wp2
      go_round
      case rel =>
        refine ⟨k + 1, by omega, by go_num, ?_⟩
        rw [List.take_succ_eq_append_getElem hlt, List.foldl_append, HG.out]; rfl
      case measure => simp [intOf]; omega
    · obtain rfl : k = zs.length := by omega
      rw [List.take_length]
      generalize hg : zs.foldl stepB (~~~ s) = c
      have HG := Lib.hid hg; clear hg
      go_wp2
      go_ret
      exact ⟨by unfold more; rw [HG.out]; rfl, rfl⟩

theorem of_any (a : Option Addr) (n cap : Nat) (zs : List (BitVec 8)) (w : World) (hn : n = zs.length) (hl : n ≤ maxLen)
    (hc : Rd w a (zs.map B8)) (ht : TabAt w) :
    Calls Tryd.prog 13 #[.slice a n cap] w fun e w' => e = .returned (.int .u32 (I32 (sumOf zs))) ∧ w = w' := by
  have HC := Lib.hid hc; clear hc
  have HT := Lib.hid ht; clear ht
  have HN := Lib.hid hn; clear hn
  have h0 : (Value.int .u32 0) = .int .u32 (I32 0#32) := rfl
  have H0 := Lib.hid h0; clear h0
  go_enter Tryd.func13, Tryd.ntmps13
  go_wp2_with fail
  rw [H0.out]
  refine (more_any 0#32 a n cap zs _ HN.out hl HC.out HT.out).mono ?_
  rintro e w' ⟨rfl, rfl⟩
  go_wp2
  go_ret
  exact ⟨rfl, rfl⟩
end Go.Proofs.YtlinhcbjljcgbaaDoor
