/- The walk of SumsParts: whatever the bytes and the lengths of their parts, the law returns true. -/
import Derived.Test.YtlinhcbjljcgbaaDoorLives15
import Derived.Test.YtlinhcbjljcgbaaDoorOpen
namespace Go.Proofs.YtlinhcbjljcgbaaDoor
open Go.RowKit

attribute [local go_sem high] run_min2
theorem more_more (s : BitVec 32) (xs ys : List (BitVec 8)) : more (more s xs) ys = more s (xs ++ ys) := by
  unfold more; rw [List.foldl_append, BitVec.not_not]

theorem Rd.cut {w : World} {a : Option Addr} {zs : List (BitVec 8)} (h : Rd w a (zs.map B8)) (lo hi : Nat) : Rd w (a.map (fun x => x.add lo)) (((zs.drop lo).take (hi - lo)).map B8) := by
  rw [List.map_take, List.map_drop]; exact (h.dropMap lo).take _

set_option maxRecDepth 100000 in
set_option maxHeartbeats 1000000 in
theorem sumsParts_walk (a0 a1 : Option Addr) (n0 n1 c0 c1 : Nat) (zs ls : List (BitVec 8)) (w : World) (h0 : n0 = zs.length) (h1 : n1 = ls.length) (hc0 : n0 ≤ c0) (hm0 : c0 ≤ maxLen) (hc1 : n1 ≤ c1) (hm1 : c1 ≤ maxLen)
    (hz : Rd w a0 (zs.map B8)) (hl : Rd w a1 (ls.map B8)) (ht : TabAt w) :
    Calls Tryd.prog 5 #[.slice a0 n0 c0, .slice a1 n1 c1] w fun e w' => e = .returned (.bool true) ∧ Below w.heap.size w w' := by
  subst h0 h1
  unfold maxLen at hm0 hm1
  have HZ := Lib.hid hz
  have HL := Lib.hid hl
  have HT := Lib.hid ht
  clear hz hl ht
  by_cases hbig : 2000 < zs.length ∨ 300 < ls.length
  · by_cases hb0 : 2000 < zs.length
    · go_enter Tryd.func5, Tryd.ntmps5
      go_wp2_with fail
      refine (lives_any _ HT.out).mono ?_
      rintro e w1 ⟨rfl, hb⟩
      go_wp2_with fail
      go_ret
      exact ⟨rfl, hb⟩
    · have hb1 : 300 < ls.length := by omega
      clear hbig
      go_enter Tryd.func5, Tryd.ntmps5
      go_wp2_with fail
      refine (lives_any _ HT.out).mono ?_
      rintro e w1 ⟨rfl, hb⟩
      go_wp2_with fail
      go_ret
      exact ⟨rfl, hb⟩
  · have hb0 : zs.length ≤ 2000 := by omega
    have hb1 : ls.length ≤ 300 := by omega
    clear hbig
    go_enter Tryd.func5, Tryd.ntmps5
    go_wp2_with fail
    have i0 : (0 : Int) = I32 (more 0#32 []) := by decide +kernel
    go_loop [5, 6, 7] (fun n at_ i => ∃ k p : Nat, k ≤ ls.length ∧ p ≤ zs.length ∧ i = .int .i64 k ∧ at_ = .int .i64 p ∧ n = .int .u32 (I32 (more 0#32 (zs.take p)))) (fun _ _ i => ls.length - (intOf i).toNat)
    case atStart => exact ⟨0, 0, Nat.zero_le _, Nat.zero_le _, rfl, rfl, by rw [List.take_zero, ← i0]⟩
    case round =>
      clear i0
      obtain ⟨k, p, hk, hp, rfl, rfl, rfl⟩ := hrel
      generalize hM : more 0#32 (zs.take p) = M
      have HM := Lib.hid hM; clear hM
      by_cases hlt : k < ls.length
      · obtain ⟨b, o, rfl, hcell⟩ := HL.out k (by simpa using hlt)
        simp only [List.getElem_map, B8] at hcell
        have hd0 := I8_0 ls[k]
        have hd1 := I8_lt ls[k]
        generalize I8 ls[k] = d at *
        obtain ⟨d, rfl⟩ := Int.eq_ofNat_of_zero_le hd0
        obtain ⟨q, hq⟩ : ∃ q : Nat, q = min zs.length (p + d) := ⟨_, rfl⟩
        have hpq : p ≤ q := by omega
        have hqz : q ≤ zs.length := by omega
        have hmin : min (zs.length : Int) ((p : Int) + d) = q := by omega
        have hsl := fun wx => run_cut slB a0 zs.length c0 p q .i64 .i64 hpq (by omega) wx
        have hrd := HZ.out.cutA c0 p q 1 (by omega)
        simp only [Nat.mul_one] at hrd
        rw [← List.map_drop, ← List.map_take] at hrd
        have HCALL := Lib.hid (more_any M (cutA a0 c0 p 1) (q - p) (c0 - p) ((zs.drop p).take (q - p)) w (by simp; omega) (by unfold maxLen; omega) hrd HT.out)
        have hfin : more (more 0#32 (zs.take p)) ((zs.drop p).take (q - p)) = more 0#32 (zs.take q) := by
          rw [more_more]; congr 1
          rw [← List.take_append_drop p (zs.take q), List.take_take, Nat.min_eq_left hpq, List.drop_take]
        rw [HM.out] at hfin
        have HF := Lib.hid hfin
        clear hfin hq hrd
        go_wp2_with fail
        refine HCALL.out.mono ?_
        rintro e w' ⟨rfl, rfl⟩
        rw [HF.out]
        go_wp2_with fail
        go_round
        case rel => exact ⟨k + 1, q, by omega, hqz, by go_num, rfl, rfl⟩
        case measure => simp [intOf]; omega
      · obtain rfl : k = ls.length := by omega
        have hsl := fun wx => run_cutFrom slB a0 zs.length c0 p .i64 hp wx
        have hrd := HZ.out.cutA c0 p zs.length 1 (by omega)
        simp only [Nat.mul_one] at hrd
        rw [← List.map_drop, ← List.map_take, List.take_of_length_le (by simp)] at hrd
        have HCALL := Lib.hid (more_any M (cutA a0 c0 p 1) (zs.length - p) (c0 - p) (zs.drop p) w (by simp) (by unfold maxLen; omega) hrd HT.out)
        have HCALL2 := Lib.hid (of_any a0 zs.length c0 zs w rfl (by unfold maxLen; omega) HZ.out HT.out)
        have hfin : more M (zs.drop p) = sumOf zs := by
          rw [← HM.out, more_more, List.take_append_drop]; rfl
        have HF := Lib.hid hfin
        clear hfin hrd
        go_wp2_with fail
        refine HCALL.out.mono ?_
        rintro e w' ⟨rfl, rfl⟩
        rw [HF.out]
        go_wp2_with fail
        refine HCALL2.out.mono ?_
        rintro e w' ⟨rfl, rfl⟩
        go_wp2_with fail
        refine (lives_any _ HT.out).mono ?_
        rintro e w1 ⟨rfl, hb⟩
        go_wp2_with fail
        go_ret
        exact ⟨rfl, hb⟩

theorem sumsParts_law (a0 : Option Addr) (n0 c0 : Nat) (z0 : List (BitVec 8)) (a1 : Option Addr) (n1 c1 : Nat) (z1 : List (BitVec 8)) (W : World) (o0 : IsBytes W a0 n0 c0 z0) (o1 : IsBytes W a1 n1 c1 z1) (ht : TabAt W) :
    Calls Tryd.prog 5 #[.slice a0 n0 c0, .slice a1 n1 c1] W fun e w' => e = .returned (.bool true) ∧ Below W.heap.size W w' :=
  sumsParts_walk a0 a1 n0 n1 c0 c1 z0 z1 W o0.len o1.len o0.cap o0.max o1.cap o1.max o0.rd o1.rd ht
end Go.Proofs.YtlinhcbjljcgbaaDoor
