/- The document's answer for layer 15: its functions compute the same sums. -/
import Derived.Test.YtlinhcbjljcgbaaDoorCrc
import Derived.Test.YtlinhcbjljcgbaaDoorSlices
import Derived.Test.YtlinhcbjljcgbaaDoorTwin
import Derived.Deep.RegionHeld3
namespace Go.Proofs.YtlinhcbjljcgbaaDoor
open Go.RowKit
attribute [local go_sem high] I32_d2 I32_m2 I32_shr bits8_32 bits32_xor I32_not I32_t2 I32_tm I32_m32

set_option maxRecDepth 100000 in
set_option maxHeartbeats 1000000 in
theorem refOf_any (a : Option Addr) (n cap : Nat) (zs : List (BitVec 8)) (w : World) (hn : n = zs.length) (hl : n ≤ maxLen) (hc : Rd w a (zs.map B8)) :
    Calls Tryd.prog 14 #[.slice a n cap] w fun e w' => e = .returned (.int .u32 (I32 (sumOf zs))) ∧ w = w' := by
  subst hn
  unfold maxLen at hl
  have HC := Lib.hid hc; clear hc
  have i0 : (4294967295 : Int) = I32 (~~~ 0#32) := by decide +kernel
  have I0 := Lib.hid i0; clear i0
  go_enter Tryd.func14, Tryd.ntmps14
  go_wp2
  go_loop [3, 4] (fun n i => ∃ k : Nat, k ≤ zs.length ∧ i = .int .i64 k ∧ n = .int .u32 (I32 ((zs.take k).foldl stepB (~~~ 0#32)))) (fun _ i => zs.length - (intOf i).toNat)
  case atStart => exact ⟨0, Nat.zero_le _, rfl, by rw [I0.out]; rfl⟩
  case round =>
    obtain ⟨k, hk, rfl, rfl⟩ := hrel
    by_cases hlt : k < zs.length
    · obtain ⟨b, o, rfl, hcell⟩ := HC.out k (by simpa using hlt)
      simp only [List.getElem_map, B8] at hcell
      generalize hg : (zs.take k).foldl stepB (~~~ 0#32) = c at *
      have HG := Lib.hid hg; clear hg
      obtain ⟨x, hx⟩ : ∃ x, x = zs[k] := ⟨_, rfl⟩
      rw [← hx] at hcell
      have HX := Lib.hid hx; clear hx
      go_wp2_with fail
      go_loop [3, 5] (fun n i => ∃ j : Nat, j ≤ 8 ∧ i = .int .i64 j ∧ n = .int .u32 (I32 (bitsOf c x j))) (fun _ i => 8 - (intOf i).toNat)
      case atStart => exact ⟨0, Nat.zero_le _, rfl, by rw [bitsOf_0]⟩
      case round =>
        obtain ⟨j, hj, rfl, rfl⟩ := hrel
        by_cases hlt8 : j < 8
        · have hs := bitsOf_succ c x j
          generalize hy : bitsOf c x j = y at *
          have HY := Lib.hid hy; clear hy
          cases hbit : (y.getLsbD 0 != ((x.setWidth 32) >>> j).getLsbD 0) with
          | true =>
            have hd := I32_one_ne y ((x.setWidth 32) >>> j)
            rw [hbit] at hd hs
            have HS := Lib.hid hs; clear hs
            have i1 : (3988292384 : Int) = I32 3988292384#32 := by decide +kernel
            have hxor : bits .xor .u32 (I32 (y >>> 1)) 3988292384 = I32 ((y >>> 1) ^^^ 3988292384#32) := by rw [i1, bits32_xor]
            clear i1
            go_wp2_with fail
            go_round
            case rel => exact ⟨j + 1, by omega, by go_num, by rw [HS.out, if_pos rfl]⟩
            case measure => simp [intOf]; omega
          | false =>
            have hd := I32_one_ne y ((x.setWidth 32) >>> j)
            rw [hbit] at hd hs
            have HS := Lib.hid hs; clear hs
            go_wp2_with fail
            go_round
            case rel => exact ⟨j + 1, by omega, by go_num, by rw [HS.out, if_neg (by simp), BitVec.xor_zero, I32_m32]⟩
            case measure => simp [intOf]; omega
        · obtain rfl : j = 8 := by omega
          rw [bitsOf_8]
          generalize hy : stepB c x = y at *
          have HY := Lib.hid hy; clear hy
          go_wp2_with fail
          go_round
          case rel =>
            refine ⟨k + 1, by omega, by go_num, ?_⟩
            rw [List.take_succ_eq_append_getElem hlt, List.foldl_append, HG.out, ← HX.out]
            show _ = Value.int .u32 (I32 (stepB c x))
            rw [HY.out]
          case measure => simp [intOf]; omega
    · obtain rfl : k = zs.length := by omega
      rw [List.take_length]
      generalize hg : zs.foldl stepB (~~~ 0#32) = c
      have HG := Lib.hid hg; clear hg
      go_wp2
      go_ret
      exact ⟨by unfold sumOf more; rw [HG.out]; rfl, rfl⟩

attribute [local go_sem high] I32_t256 I32_t65536 I32_t16777216 bits32_8 I8_m256
set_option maxHeartbeats 1000000 in
theorem refPut_any (a : Option Addr) (n cap : Nat) (zs : List (BitVec 8)) (w : World) (hn : n = zs.length) (hl : n ≤ 100000) (hc : Rd w a (zs.map B8)) :
    Calls Tryd.prog 17 #[.slice a n cap] w fun e w' => ∃ v, e = .returned v ∧ Own w' w.heap.size 5 1 v (n + 4) ((zs ++ four (sumOf zs)).map B8) ∧ Below w.heap.size w w' := by
  have HC := Lib.hid hc; clear hc
  have HN := Lib.hid hn; clear hn
  go_enter Tryd.func17, Tryd.ntmps17
  go_wp2_with fail
  refine (refOf_any a n cap zs _ HN.out (by unfold maxLen; omega) HC.out).mono ?_
  rintro e w' ⟨rfl, rfl⟩
  generalize hs : sumOf zs = s
  have HS := Lib.hid hs; clear hs
  go_wp2_with (first
    | (at_builtin; (refine wpl_append rfl (.const (.slice none 0 0)) (.tmp 7) _ rfl slB w.heap.size (.slice none 0 0) 0 [] rfl (World.ownsRow_nil _ _ _ _) a n cap (zs.map B8) rfl (by have := HN.out; simp; omega) HC.out (oneCell_B8 _) (by unfold maxLen; omega) (by omega) (Nat.le_refl _) ?_); intro v1 w1 hown1 hg1 _)
    | (at_builtin; (refine wpl_append rfl (.tmp 9) (.tmp 24) _ rfl slB w.heap.size v1 (0 + n) ([] ++ zs.map B8) rfl (hown1.alloc _) (some ⟨w1.heap.size, 0, none⟩) 4 4 ((four s).map B8) rfl rfl (Rd.lit w1 ((four s).map B8).toArray _ _) (oneCell_B8 _) (by unfold maxLen; omega) (by omega) (by have := hg1.size; simp; omega) ?_); intro v2 w2 hown2 hg2 _))
  go_ret
  have hb1 : Below w.heap.size w w1 := (Below.refl _ _).grown hg1 (Nat.le_refl _) (by simp [Value.ownBlock])
  have hb2 : Below w.heap.size w w2 := (hb1.alloc hb1.size _).grown hg2 (by have := hb1.size; simp; omega) (fun k hk => (hown1.lt k hk).1)
  refine ⟨v2, rfl, ?_, hb2⟩
  have := Own.ofRow hown2
  simpa [HS.out] using this

set_option maxHeartbeats 1000000 in
theorem refEnds_any (a : Option Addr) (n cap : Nat) (zs : List (BitVec 8)) (w : World) (hn : n = zs.length) (hl : n ≤ 100000) (hcap : n ≤ cap) (hcm : cap ≤ maxLen) (hc : Rd w a (zs.map B8)) :
    Calls Tryd.prog 19 #[.slice a n cap] w fun e w' => e = .returned (.bool (endsOf zs)) ∧ Below w.heap.size w w' := by
  unfold maxLen at hcm
  have HC := Lib.hid hc; clear hc
  have HN := Lib.hid hn; clear hn
  by_cases h4 : n < 4
  · have hd : decide ((n : Int) < 4) = true := by simp; omega
    have he : endsOf zs = false := decide_eq_false (fun h => by have := h.1; have := HN.out; omega)
    rw [he]
    go_enter Tryd.func19, Tryd.ntmps19
    go_wp2
    go_ret
    exact ⟨rfl, Below.refl _ _⟩
  · have hd : decide ((n : Int) < 4) = false := by simp; omega
    have hi1 : (4 : Int) ≤ n := by omega
    have hi2 : (n : Int) - 4 ≤ n := by omega
    have hi3 : (n : Int) - 4 ≤ cap := by omega
    have hwr : IntKind.i64.wrap ((n : Int) - 4) = (n : Int) - 4 := IntWalk.i64_in _ (by omega)
    have hk : ((n - 4 : Nat) : Int) = (n : Int) - 4 := by omega
    have hsl : ∀ wx, (Instr.slice 22 (.slice a n cap) none (some (.int .i64 ((n : Int) - 4))) none).run Tryd.prog wx = .ok (.slice a (n - 4) cap) wx := by
      intro wx
      have := run_cutTo slB a n cap (n - 4) .i64 (by omega) wx
      rwa [hk] at this
    clear hk
    have h0 : Rd w a ((zs.take (n - 4)).map B8) := by rw [List.map_take]; exact HC.out.take _
    have H0 := Lib.hid h0
    clear h0
    go_enter Tryd.func19, Tryd.ntmps19
    go_wp2_with fail
    have hst0 := run_toString w.drew Tryd.underlying22 Tryd.underlying5 Tryd.underlying9 a n cap zs HN.out HC.out.drew
    have heq : endsOf zs = ((strOf (zs.take (n - 4) ++ four (sumOf (zs.take (n - 4))))).toList == (strOf zs).toList) := by
      have hn := HN.out
      subst hn
      unfold endsOf
      rw [Bool.eq_iff_iff, decide_eq_true_iff, beq_iff_eq]
      have h5 : (strOf (zs.take (zs.length - 4) ++ four (sumOf (zs.take (zs.length - 4))))).toList = (strOf zs).toList ↔ zs.take (zs.length - 4) ++ four (sumOf (zs.take (zs.length - 4))) = zs := by
        rw [← strOf_inj]
        constructor
        · intro h; exact strOf_toList_inj h
        · intro h; rw [h]
      rw [h5]
      constructor
      · rintro ⟨_, h⟩
        conv => rhs; rw [← List.take_append_drop (zs.length - 4) zs]
        rw [h]
      · intro h
        refine ⟨by omega, ?_⟩
        have := List.take_append_drop (zs.length - 4) zs
        rw [← h] at this
        conv at this => lhs; rw [h]
        exact List.append_cancel_left this
    have HE := Lib.hid heq
    clear heq
    go_region_with (first
        | (go_at_call 17; refine (refPut_any _ _ _ (zs.take (n - 4)) _ (by have := HN.out; simp; omega) (by omega) (by exact H0.out.drew)).mono ?_; rintro e w1 ⟨v1, rfl, hown1, hb1⟩; obtain ⟨ao1, c1, rfl, hrd1, _, _, _⟩ := hown1.rd; have hcv := run_toString w1 Tryd.underlying22 Tryd.underlying5 Tryd.underlying9 ao1 (n - 4 + 4) c1 (zs.take (n - 4) ++ four (sumOf (zs.take (n - 4)))) (by have := HN.out; simp [four]; omega) hrd1; have hst1 := run_toString w1 Tryd.underlying22 Tryd.underlying5 Tryd.underlying9 a n cap zs HN.out (HC.out.drew.below hb1)))
    all_goals
      go_wp2
      go_ret
      exact ⟨by rw [HE.out]; rfl, (Below.refl _ _).drew.trans (by assumption)⟩
end Go.Proofs.YtlinhcbjljcgbaaDoor
