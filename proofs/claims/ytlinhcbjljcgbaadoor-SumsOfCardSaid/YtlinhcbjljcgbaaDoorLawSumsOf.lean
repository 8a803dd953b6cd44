/- The walk of SumsOf: whatever the two lists of bytes, the law returns true. -/
import Derived.Test.YtlinhcbjljcgbaaDoorLives15
import Derived.Test.YtlinhcbjljcgbaaDoorRef15
import Derived.Test.YtlinhcbjljcgbaaDoorBook3
import Derived.Test.YtlinhcbjljcgbaaDoorOpen
namespace Go.Proofs.YtlinhcbjljcgbaaDoor
open Go.RowKit

theorem more_of (zs ys : List (BitVec 8)) : more (sumOf zs) ys = sumOf (zs ++ ys) := by
  unfold sumOf more; rw [BitVec.not_not, List.foldl_append]

set_option maxRecDepth 100000 in
set_option maxHeartbeats 4000000 in
theorem sumsOf_walk (a b : Option Addr) (n m c d : Nat) (zs ys : List (BitVec 8)) (w : World) (oa : IsBytes w a n c zs) (ob : IsBytes w b m d ys) (ht : TabAt w) :
    Calls Tryd.prog 3 #[.slice a n c, .slice b m d] w fun e w' => e = .returned (.bool true) ∧ Below w.heap.size w w' := by
  have HT := Lib.hid ht
  have HA := Lib.hid oa
  have HB := Lib.hid ob
  clear ht oa ob
  by_cases hbig : 3000 < n ∨ 3000 < m
  · by_cases h1 : 3000 < n
    · go_enter Tryd.func3, Tryd.ntmps3
      go_wp2_with fail
      refine (lives_any _ HT.out).mono ?_
      rintro e w1 ⟨rfl, hb⟩
      go_wp2_with fail
      go_ret
      exact ⟨rfl, hb⟩
    · have h2 : 3000 < m := by omega
      clear hbig
      go_enter Tryd.func3, Tryd.ntmps3
      go_wp2_with fail
      refine (lives_any _ HT.out).mono ?_
      rintro e w1 ⟨rfl, hb⟩
      go_wp2_with fail
      go_ret
      exact ⟨rfl, hb⟩
  · have h1 : n ≤ 3000 := by omega
    have h2 : m ≤ 3000 := by omega
    clear hbig
    go_enter Tryd.func3, Tryd.ntmps3
    go_wp2_with fail
    refine (twinBytes_any a n c (zs.map B8) _ (by have := HA.out.len; simp; omega) (by omega) HA.out.rd (oneCell_B8 _)).mono ?_
    rintro e w1 ⟨g, rfl, hg, htw, hb1⟩
    have HTW := Lib.hid htw
    have HB1 := Lib.hid hb1
    have hz1 := hb1.size
    clear htw hb1
    go_wp2_with (first
      | (at_builtin; refine wpl_append rfl (.const (.slice none 0 0)) (.tmp 20) _ rfl slB w1.heap.size (.slice none 0 0) 0 [] rfl (World.ownsRow_nil _ _ _ _) a n c (zs.map B8) rfl (by have := HA.out.len; simp; omega) (HA.out.rd.below HB1.out) (oneCell_B8 _) (by unfold maxLen; omega) (by omega) (Nat.le_refl _) ?_; intro v2 w2 hown2 hg2 _)
      | (at_builtin; refine wpl_append rfl (.tmp 21) (.tmp 22) _ rfl slB w1.heap.size v2 (0 + n) ([] ++ zs.map B8) rfl hown2 b m d (ys.map B8) rfl (by have := HB.out.len; simp; omega) ((HB.out.rd.below HB1.out).below (grownBy_toBelow hg2 (Nat.le_refl _) (by simp [Value.ownBlock]))) (oneCell_B8 _) (by unfold maxLen; omega) (by omega) (by have := hg2.size; omega) ?_; intro v3 w3 hown3 hg3 _))
    have hb3 : Below w1.heap.size w1 w3 := (grownBy_toBelow hg2 (Nat.le_refl _) (by simp [Value.ownBlock])).grown hg3 hg2.size (fun k hk => (hown2.lt k hk).1)
    have hall := Own.ofRow hown3
    have hall2 : Own w3 w1.heap.size 5 1 v3 (n + m) ((zs ++ ys).map B8) := by simpa using hall
    obtain ⟨aa, ca, rfl, hrda, hca, hma, _⟩ := hall2.rd
    have HRA := Lib.hid hrda
    have HB3 := Lib.hid (HB1.out.trans (hb3.mono hz1))
    have HTW3 := Lib.hid (HTW.out.below hb3)
    have hgl3 := HTW3.out.lt
    clear hown2 hown3 hg2 hg3 hall hall2 hrda hb3 HTW HB1
    have hln := HA.out.len
    have hlm := HB.out.len
    have HLN := Lib.hid hln
    have HLM := Lib.hid hlm
    clear hln hlm
    go_wp2_with fail
    refine (put_any _ n (n + 2) zs _ HLN.out (by omega) HTW3.out.rd (HT.out.below HB3.out)).mono ?_
    rintro e w4 ⟨v4, rfl, hown4, hb4⟩
    obtain ⟨a4, c4, rfl, hrd4, hc4, hm4, _⟩ := hown4.rd
    have HO4 := Lib.hid hown4
    have HR4 := Lib.hid hrd4
    have HRA4 := Lib.hid (HRA.out.below hb4)
    have HTW4 := Lib.hid (HTW3.out.below hb4)
    have HB4 := Lib.hid (HB3.out.trans (hb4.mono HB3.out.size))
    have hz34 := hb4.size
    have hblk4 : ∀ k, (Pg.mk a4 (n + 4) c4).blk = some k → w3.heap.size ≤ k ∧ k < w4.heap.size := by
      intro k hk
      obtain ⟨a', c', e, _, _, _, h⟩ := hown4.rd
      simp only [Value.slice.injEq, true_and] at e
      obtain ⟨rfl, rfl⟩ := e
      rcases a4 with _ | ⟨bb, oo, ss⟩
      · simp [Pg.blk] at hk
      · simp [Pg.blk] at hk
        subst hk
        exact h _ _ _ rfl
    have HBLK4 := Lib.hid hblk4
    clear hblk4
    clear hown4 hrd4 hb4 HRA HTW3
    go_wp2_with fail
    refine (of_any _ n (n + 2) zs _ HLN.out (by unfold maxLen; omega) HTW4.out.rd (HT.out.below HB4.out)).mono ?_
    rintro e w' ⟨rfl, rfl⟩
    go_wp2_with fail
    refine (refOf_any a n c zs _ HLN.out (by unfold maxLen; omega) (HA.out.rd.below HB4.out)).mono ?_
    rintro e w' ⟨rfl, rfl⟩
    have hq1 : (I32 (sumOf zs) != I32 (sumOf zs)) = false := by simp
    go_wp2_with fail
    refine (of_any _ n (n + 2) zs _ HLN.out (by unfold maxLen; omega) HTW4.out.rd (HT.out.below HB4.out)).mono ?_
    rintro e w' ⟨rfl, rfl⟩
    go_wp2_with fail
    refine (more_any (sumOf zs) b m d ys _ HLM.out (by unfold maxLen; omega) (HB.out.rd.below HB4.out) (HT.out.below HB4.out)).mono ?_
    rintro e w' ⟨rfl, rfl⟩
    rw [more_of]
    go_wp2_with fail
    refine (refOf_any aa (n + m) ca (zs ++ ys) _ (by have := HLN.out; have := HLM.out; simp; omega) (by unfold maxLen; omega) HRA4.out).mono ?_
    rintro e w' ⟨rfl, rfl⟩
    have hq2 : (I32 (sumOf (zs ++ ys)) != I32 (sumOf (zs ++ ys))) = false := by simp
    go_wp2_with fail
    clear hq1 hq2
    refine (refPut_any a n c zs _ HLN.out (by omega) (HA.out.rd.below HB4.out)).mono ?_
    rintro e w5 ⟨v5, rfl, hown5, hb5⟩
    obtain ⟨a5, c5, rfl, hrd5, hc5, hm5, _⟩ := hown5.rd
    have hl5 : n + 4 = (zs ++ four (sumOf zs)).length := by have := HLN.out; simp [four]; omega
    have HL5 := Lib.hid hl5
    have HR5 := Lib.hid hrd5
    have HR45 := Lib.hid (HR4.out.below hb5)
    have HO5 := Lib.hid (HO4.out.below hb5)
    have HTW5 := Lib.hid (HTW4.out.below hb5)
    have HB5 := Lib.hid (HB4.out.trans (hb5.mono HB4.out.size))
    have hz45 := hb5.size
    clear hown5 hrd5 hb5 hl5 HR4 HO4 HTW4 HRA4
    go_wp2_with fail
    refine (sameBytes_any a4 a5 (n + 4) (n + 4) c4 c5 _ _ _ HL5.out HL5.out (by unfold maxLen; omega) HR45.out HR5.out).mono ?_
    rintro e w6 ⟨rfl, hb6⟩
    rw [decide_eq_true rfl]
    have HO6 := Lib.hid (HO5.out.below hb6)
    have HTW6 := Lib.hid (HTW5.out.below hb6)
    have HB6 := Lib.hid (HB5.out.trans (hb6.mono HB5.out.size))
    have hz56 := hb6.size
    clear hb6 HR5 HR45 HO5 HTW5
    go_wp2_with fail
    refine (ends_any _ n (n + 2) zs _ HLN.out (by omega) (by omega) (by unfold maxLen; omega) HTW6.out.rd (HT.out.below HB6.out)).mono ?_
    rintro e w7 ⟨rfl, hb7⟩
    have HO7 := Lib.hid (HO6.out.below hb7)
    have HTW7 := Lib.hid (HTW6.out.below hb7)
    have HB7 := Lib.hid (HB6.out.trans (hb7.mono HB6.out.size))
    have hz67 := hb7.size
    clear hb7 HO6 HTW6
    go_wp2_with fail
    refine (refEnds_any a n c zs _ HLN.out (by omega) HA.out.cap HA.out.max (HA.out.rd.below HB7.out)).mono ?_
    rintro e w8 ⟨rfl, hb8⟩
    have HO8 := Lib.hid (HO7.out.below hb8)
    have HTW8 := Lib.hid (HTW7.out.below hb8)
    have HB8' := Lib.hid (HB7.out.trans (hb8.mono HB7.out.size))
    have hz78 := hb8.size
    clear hb8 HO7 HTW7
    have hq3 : (endsOf zs != endsOf zs) = false := by simp
    go_wp2_with fail
    refine (leftBytes_any g n c a n zs zs _ HLN.out (by omega) HLN.out HTW8.out (HA.out.rd.below HB8'.out)).mono ?_
    rintro e w9 ⟨rfl, hb9⟩
    rw [decide_eq_true rfl]
    have HO9 := Lib.hid (HO8.out.below hb9)
    have HTW9 := Lib.hid (HTW8.out.below hb9)
    have HB9 := Lib.hid (HB8'.out.trans (hb9.mono HB8'.out.size))
    have hz89 := hb9.size
    clear hb9 hq3 HO8 HTW8
    go_wp2_with fail
    have hz9 := HB9.out.size
    have HK := Lib.hid (BookPages.new w9 w.heap.size hz9)
    have HO10 := Lib.hid (HO9.out.below ((Below.refl _ _).alloc (Nat.le_refl _) (.cells #[.slice none 0 0] 32)))
    have HTW10 := Lib.hid (HTW9.out.below ((Below.refl _ _).alloc (Nat.le_refl _) (.cells #[.slice none 0 0] 32)))
    have hgl9 := HTW9.out.lt
    have hz39 : w3.heap.size ≤ w9.heap.size := by omega
    refine (bytesP w.heap.size w9.heap.size (.slice none 0 0) [] ⟨some ⟨g, 0, none⟩, n, n + 2⟩ _ HK.out (by simp) (by simp; omega) (PgSt.ofTwin HTW10.out (by have := HLN.out; simp; omega) (by unfold maxLen; omega) 0) ?_).mono ?_
    · intro k hk
      simp [Pg.blk] at hk
      subst hk
      exact ⟨hg, by omega, by simp [Value.ownBlock], fun k h => by simp at h⟩
    rintro e w10 ⟨rfl, pv1, hk1, hpv1, hl1⟩
    simp only [List.nil_append] at hk1
    have hpv1' : ∀ k, pv1.ownBlock = some k → w9.heap.size < k := by
      rcases hpv1 with h | h
      · rw [h]; intro k hk; simp [Value.ownBlock] at hk
      · intro k hk; have := h k hk; simp at this; omega
    have HPV1 := Lib.hid hpv1'
    have hown10 : Own w10 w3.heap.size 5 1 (.slice a4 (n + 4) c4) (n + 4) ((zs ++ four (sumOf zs)).map B8) := by
      refine HO10.out.same fun k hk => ?_
      have h4 := HBLK4.out k (by cases a4 <;> exact hk)
      exact hl1.block k (by simp; omega) (by omega) (by simp [Value.ownBlock])
    have HO11 := Lib.hid hown10
    have HK1 := Lib.hid hk1
    have HL1 := Lib.hid hl1
    have hz10 := hl1.size
    clear hpv1 hk1 hl1 hpv1' hown10
    go_wp2_with fail
    refine (bytesP w.heap.size w9.heap.size pv1 [⟨some ⟨g, 0, none⟩, n, n + 2⟩] ⟨a4, n + 4, c4⟩ _ HK1.out (by simp) (by simp at hz10; omega) (PgSt.ofOwn HO11.out 0) ?_).mono ?_
    · intro k hk
      have h4 := HBLK4.out k hk
      refine ⟨by omega, by omega, fun e => by have := HPV1.out k e; omega, fun j hj => ?_⟩
      have hj0 : j = 0 := by simpa using hj
      subst hj0
      simp [Pg.blk]
      omega
    rintro e w11 ⟨rfl, pv2, hk2, hpv2, hl2⟩
    have HK2 := Lib.hid hk2
    have hzw : w.heap.size ≤ w9.heap.size := hz9
    have hb11 : Below w.heap.size w w11 := by
      have b1 : Below w.heap.size w9 (w9.alloc (.cells #[.slice none 0 0] 32)) := (Below.refl _ _).alloc hzw _
      have b2 : Below w.heap.size (w9.alloc (.cells #[.slice none 0 0] 32)) w10 := HL1.out.below hzw (by simp [Value.ownBlock]) (by simp; omega)
      have b3 : Below w.heap.size w10 w11 := hl2.below hzw (fun k hk => by have := HPV1.out k hk; omega) (by simp at hz10; omega)
      exact ((HB9.out.trans b1).trans b2).trans b3
    have HB11 := Lib.hid hb11
    have hz11 := hb11.size
    clear hk2 hpv2 hl2 hb11
    go_wp2_with fail
    refine (apartP w.heap.size w9.heap.size pv2 _ _ HK2.out (by simp) hz11).mono ?_
    rintro e w12 ⟨rfl, hb12⟩
    have HB12 := Lib.hid (HB11.out.trans hb12)
    have hz12 := HB12.out.size
    clear hb12
    go_wp2_with fail
    refine (lives_any _ (HT.out.below HB12.out)).mono ?_
    rintro e w13 ⟨rfl, hb13⟩
    go_wp2_with fail
    go_ret
    exact ⟨rfl, HB12.out.trans (hb13.mono hz12)⟩

theorem sumsOf_law (a0 : Option Addr) (n0 c0 : Nat) (z0 : List (BitVec 8)) (a1 : Option Addr) (n1 c1 : Nat) (z1 : List (BitVec 8)) (W : World) (o0 : IsBytes W a0 n0 c0 z0) (o1 : IsBytes W a1 n1 c1 z1) (ht : TabAt W) :
    Calls Tryd.prog 3 #[.slice a0 n0 c0, .slice a1 n1 c1] W fun e w' => e = .returned (.bool true) ∧ Below W.heap.size W w' :=
  sumsOf_walk a0 a1 n0 n1 c0 c1 z0 z1 W o0 o1 ht
end Go.Proofs.YtlinhcbjljcgbaaDoor
