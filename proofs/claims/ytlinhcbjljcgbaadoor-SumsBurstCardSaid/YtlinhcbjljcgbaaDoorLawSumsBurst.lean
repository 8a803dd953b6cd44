/- The walk of SumsBurst: whatever the bytes and the turned bits, the law returns true. -/
import Derived.Test.YtlinhcbjljcgbaaDoorLives15
import Derived.Test.YtlinhcbjljcgbaaDoorOpen
import Derived.StillTailTactics
namespace Go.Proofs.YtlinhcbjljcgbaaDoor
open Go.RowKit
attribute [local go_sem high] bits32_and1 bits8_xor

theorem bit_true {b : BitVec 32} {i : Nat} (h : b.getLsbD i = true) : (I32 ((b >>> i) &&& 1#32) == 1) = true := by
  have e : (b >>> i) &&& 1#32 = 1#32 := by
    apply BitVec.eq_of_getLsbD_eq; intro j hj
    rcases j with _ | j
    · simp [h]
    · simp
  rw [e]; decide +kernel
theorem bit_false {b : BitVec 32} {i : Nat} (h : b.getLsbD i = false) : (I32 ((b >>> i) &&& 1#32) == 1) = false := by
  have e : (b >>> i) &&& 1#32 = 0#32 := by
    apply BitVec.eq_of_getLsbD_eq; intro j hj
    rcases j with _ | j
    · simp [h]
    · simp
  rw [e]; decide +kernel
attribute [local go_sem high] I32_shr I8_bit
set_option maxRecDepth 100000 in
set_option maxHeartbeats 1000000 in
theorem sumsBurst_walk (a : Option Addr) (n c : Nat) (zs : List (BitVec 8)) (bits : BitVec 32) (x : Nat) (w : World) (hx : x < 4294967296) (o : IsBytes w a n c zs) (ht : TabAt w) :
    Calls Tryd.prog 4 #[.slice a n c, .int .u32 (I32 bits), .int .u32 x] w fun e w' => e = .returned (.bool true) ∧ Below w.heap.size w w' := by
  have HT := Lib.hid ht
  have HO := Lib.hid o
  have hnc := o.cap
  have hcm := o.max
  unfold maxLen at hcm
  clear ht o
  by_cases hbig : 2000 < n
  · go_enter Tryd.func4, Tryd.ntmps4
    go_wp2_with fail
    refine (lives_any _ HT.out).mono ?_
    rintro e w1 ⟨rfl, hb⟩
    go_wp2_with fail
    go_ret
    exact ⟨rfl, hb⟩
  · have hn : n ≤ 2000 := by omega
    clear hbig
    go_enter Tryd.func4, Tryd.ntmps4
    go_wp2_with fail
    refine (put_any a n c zs _ HO.out.len (by omega) HO.out.rd HT.out).mono ?_
    rintro e w1 ⟨v, rfl, hown, hb⟩
    have hlen : (zs ++ four (sumOf zs)).length = n + 4 := by rw [HO.out.len]; simp [four]
    have hep := ends_put zs
    generalize zs ++ four (sumOf zs) = P at *
    obtain ⟨m, hm⟩ : ∃ m, m = n + 4 := ⟨_, rfl⟩
    rw [← hm] at hown hlen
    have hm1 : m ≤ 2004 := by omega
    have hm4 : 4 ≤ m := by omega
    have hne : ((m : Int) != (n : Int) + 4) = false := by simp; omega
    have HM := Lib.hid hm
    clear hm
    obtain ⟨ao, cc, rfl, hrd, hmc, hcm, _⟩ := hown.rd
    obtain ⟨g, off, rfl, _⟩ := hrd.lt (by simp; omega)
    have HB := Lib.hid hb
    have HP := Lib.hid hown
    have HL := Lib.hid hlen
    have HE := Lib.hid hep
    have HR := Lib.hid hrd
    have hcm' := hcm
    unfold maxLen at hcm'
    clear hb hown hlen hep hrd
    obtain ⟨f, hf, hf32⟩ : ∃ f : Nat, (x : Int) % (8 * (m : Int) - 31) = f ∧ f + 32 ≤ 8 * m := by
      have h1 := Int.emod_nonneg (x : Int) (b := 8 * (m : Int) - 31) (by omega)
      have h2 := Int.emod_lt_of_pos (x : Int) (b := 8 * (m : Int) - 31) (by omega)
      exact ⟨((x : Int) % (8 * (m : Int) - 31)).toNat, by omega, by omega⟩
    go_wp2_with fail
    refine (ends_any _ m cc P _ HL.out.symm (by omega) hmc hcm HR.out (HT.out.below HB.out)).mono ?_
    rintro e w2 ⟨rfl, hb2⟩
    rw [HE.out]
    have HB2 := Lib.hid (HB.out.trans (hb2.mono HB.out.size))
    have HP2 := Lib.hid (HP.out.below hb2)
    clear hb2
    go_wp2_with fail
    rw [hf]
    clear hf
    have hz2 := HB2.out.size
    have hgg := HP2.out.ge
    go_loopw [9] (fun i wr => ∃ k : Nat, k ≤ 32 ∧ i = .int .i64 k ∧ Own wr w.heap.size 5 1 (.slice (some ⟨g, off, none⟩) m cc) m ((flips P bits f k).map B8) ∧ Below w.heap.size w wr) (fun i _ => 32 - (intOf i).toNat)
    case atStart => exact ⟨0, by omega, rfl, HP2.out, HB2.out⟩
    case round =>
      obtain ⟨k, hk, rfl, hown, hbl⟩ := hrel
      by_cases hlt : k < 32
      · have HOW := Lib.hid hown
        have HBL := Lib.hid hbl
        clear hown hbl
        cases hbit : bits.getLsbD k with
        | false =>
          have hbt := bit_false hbit
          go_wp2_with fail
          go_roundw
          case rel => exact ⟨k + 1, by omega, by go_num, by unfold flips; rw [if_neg (by simp [hbit])]; exact HOW.out, HBL.out⟩
          case measure => simp [intOf]; omega
        | true =>
          have hbt := bit_true hbit
          obtain ⟨j, s, hj, hs, hjs⟩ : ∃ j s : Nat, (f + k) / 8 = j ∧ (f + k) % 8 = s ∧ s < 8 := ⟨_, _, rfl, rfl, by omega⟩
          have hq : ((f : Int) + k) / 8 = j := by omega
          have hr : ((f : Int) + k) % 8 = s := by omega
          have hjm : j < m := by omega
          have hfl : (flips P bits f k).length = m := by rw [flips_length]; exact HL.out
          generalize hF : flips P bits f k = F at *
          obtain ⟨ao, c2, e2, hrd, _, _, _⟩ := HOW.out.rd
          simp only [Value.slice.injEq, true_and] at e2
          obtain ⟨rfl, rfl⟩ := e2
          have hcell : wr.cell? ⟨g, off + j, none⟩ = some (.int .u8 (I8 (F.getD j 0))) := by
            rw [hrd.get (i := j) (by simp; omega)]
            simp [B8, List.getD_eq_getElem?_getD, hfl, hjm]
          generalize hB : F.getD j 0 = B at *
          have HBB := Lib.hid hB
          clear hB
          have hfz := HOW.out.frozenAt (off + j)
          clear hrd
          have HF := Lib.hid hF
          have HFL := Lib.hid hfl
          have HJ := Lib.hid hj
          have HS := Lib.hid hs
          clear hF hfl hj hs
          go_wp2_with fail
          go_region
          go_wp2
          go_roundw
          case rel =>
            refine ⟨k + 1, by omega, by go_num, ?_, (HBL.out.drew.setCell (by exact hgg) _)⟩
            have h1 := HOW.out.drewN.set j (by omega) (.int .u8 (I8 (B ^^^ 1#8 <<< s)))
            have e : (F.map B8).set j (.int .u8 (I8 (B ^^^ 1#8 <<< s))) = (flips P bits f (k + 1)).map B8 := by
              unfold flips
              rw [if_pos hbit, HF.out]
              unfold flipAt
              rw [List.map_set, HJ.out, HS.out, HBB.out]; rfl
            rw [← e]; exact h1
          case measure => simp [intOf]; omega
      · obtain rfl : k = 32 := by omega
        have hlen32 : (flips P bits f 32).length = m := by rw [flips_length]; exact HL.out
        have hbur := burst P bits f (by rw [HL.out]; exact hm4) HE.out (by rw [HL.out]; exact hf32)
        generalize flips P bits f 32 = F at *
        obtain ⟨ao, c2, e2, hrd, _, _, _⟩ := hown.rd
        simp only [Value.slice.injEq, true_and] at e2
        obtain ⟨rfl, rfl⟩ := e2
        have HRD := Lib.hid hrd
        have HBU := Lib.hid hbur
        have HBL := Lib.hid hbl
        have HL2 := Lib.hid hlen32
        clear hrd hbur hbl hown hlen32
        go_wp2_with fail
        refine (ends_any _ m cc F _ HL2.out.symm (by omega) hmc hcm HRD.out (HT.out.below HBL.out)).mono ?_
        rintro e w3 ⟨rfl, hb3⟩
        rw [HBU.out]
        have hz3 := HBL.out.size
        have HB3 := Lib.hid (HBL.out.trans (hb3.mono hz3))
        clear hb3 hz3
        have heq : (decide (bits = 0#32) == (I32 bits == 0)) = true := by
          have e0 : (0 : Int) = I32 0#32 := by decide +kernel
          have e1 : (I32 bits == 0) = decide (bits = 0#32) := by
            rw [e0, Bool.eq_iff_iff]; simp [I32_inj]
          rw [e1]; simp
        go_wp2_with fail
        refine (lives_any _ (HT.out.below HB3.out)).mono ?_
        rintro e w4 ⟨rfl, hb4⟩
        have hz4 := HB3.out.size
        go_wp2_with fail
        go_ret
        exact ⟨rfl, HB3.out.trans (hb4.mono hz4)⟩

theorem sumsBurst_law (a0 : Option Addr) (n0 c0 : Nat) (z0 : List (BitVec 8)) (x1 x2 : Int) (W : World) (o0 : IsBytes W a0 n0 c0 z0) (o1 : (Lit.int .u32 x1).wf = true) (o2 : (Lit.int .u32 x2).wf = true) (ht : TabAt W) :
    Calls Tryd.prog 4 #[.slice a0 n0 c0, .int .u32 x1, .int .u32 x2] W fun e w' => e = .returned (.bool true) ∧ Below W.heap.size W w' := by
  have h1 := bounds_u32 o1
  have h2 := bounds_u32 o2
  obtain ⟨b, rfl⟩ := exists_I32 x1 (by omega) (by omega)
  obtain ⟨x, rfl⟩ := Int.eq_ofNat_of_zero_le h2.1
  exact sumsBurst_walk a0 n0 c0 z0 b x W (by omega) o0 ht
end Go.Proofs.YtlinhcbjljcgbaaDoor
