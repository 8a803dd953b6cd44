/- What sums.Put and sums.Ends do, for every list of bytes. -/
import Derived.Test.YtlinhcbjljcgbaaDoorMore
import Derived.Test.YtlinhcbjljcgbaaDoorSlices
import Derived.Deep.QuietTactic
import Derived.BigQuiet
import Derived.Deep.RegionWith
namespace Go.Proofs.YtlinhcbjljcgbaaDoor
open Go.RowKit
attribute [local go_sem high] bits32_shr8 bits32_shr16 bits32_shr24 bits32_8

theorem four_any (n : BitVec 32) (w : World) :
    Calls Tryd.prog 36 #[.int .u32 (I32 n)] w fun e w' => e = .returned (.slice (some ⟨w.heap.size, 0, none⟩) 4 4) ∧ w' = w.alloc (.cells ((four n).map B8).toArray 5) := by
  go_enter Tryd.func36, Tryd.ntmps36
  go_wp2
  go_ret
  exact ⟨rfl, rfl⟩

theorem four_own (n : BitVec 32) (w : World) :
    Calls Tryd.prog 36 #[.int .u32 (I32 n)] w fun e w' => ∃ v, e = .returned v ∧ Own w' w.heap.size 5 1 v 4 ((four n).map B8) ∧ Below w.heap.size w w' := by
  refine (four_any n w).mono ?_
  rintro e w' ⟨rfl, rfl⟩
  exact ⟨_, rfl, Own.ofRow (World.ownsRow_lit w ((four n).map B8).toArray 4 (Nat.le_refl _) (by unfold maxLen; omega) rfl), (Below.refl _ _).alloc (Nat.le_refl _) _⟩

theorem TabAt.below {w w' : World} (h : TabAt w) (hb : Below w.heap.size w w') : TabAt w' := fun x => by
  have := h x
  rw [Below.cell hb (World.block_lt_of_cell? w _ this)]; exact this

set_option maxHeartbeats 400000 in
theorem put_any (a : Option Addr) (n cap : Nat) (zs : List (BitVec 8)) (w : World) (hn : n = zs.length) (hl : n ≤ 100000) 
    (hc : Rd w a (zs.map B8)) (ht : TabAt w) :
    Calls Tryd.prog 12 #[.slice a n cap] w fun e w' => ∃ v, e = .returned v ∧ Own w' w.heap.size 5 1 v (n + 4) ((zs ++ four (sumOf zs)).map B8) ∧ Below w.heap.size w w' := by
  have HC := Lib.hid hc; clear hc
  have HT := Lib.hid ht; clear ht
  have HN := Lib.hid hn; clear hn
  go_enter Tryd.func12, Tryd.ntmps12
  go_wp2_with fail
  refine (of_any a n cap zs _ HN.out (by unfold maxLen; omega) HC.out HT.out).mono ?_
  rintro e w' ⟨rfl, rfl⟩
  go_wp2_with fail
  refine (four_own _ _).mono ?_
  rintro e w1 ⟨v1, rfl, hown1, hb1⟩
  obtain ⟨ao1, c1, rfl, hrd1, _, _, _⟩ := hown1.rd
  have HO := Lib.hid hrd1
  have HB := Lib.hid hb1
  have hsz1 := hb1.size
  clear hown1 hb1 hrd1
  go_wp2_with fail
  refine (concat_any (some ⟨w1.heap.size, 0, none⟩) 2 2 [.slice a n cap, .slice ao1 4 c1] [zs.map B8, (four (sumOf zs)).map B8] _ rfl (by unfold maxLen; omega) (Rd.lit w1 #[.slice a n cap, .slice ao1 4 c1] _ _)
    ⟨rfl, fun i hi => ?_⟩ (by simp [four, ← HN.out]; omega)).mono ?_
  · simp at hi
    rcases (show i = 0 ∨ i = 1 by omega) with rfl | rfl
    · exact ⟨a, cap, by simp [HN.out], (HC.out.below HB.out).alloc _, oneCell_B8 _⟩
    · exact ⟨ao1, c1, by simp [four], HO.out.alloc _, oneCell_B8 _⟩
  rintro e w2 ⟨v2, rfl, hown2, hb2⟩
  have hlen : (List.map B8 zs ++ (List.map B8 (four (sumOf zs)))).length = n + 4 := by simp [four, HN.out]
  have hown2' : Own w2 w.heap.size 5 1 v2 (n + 4) ((zs ++ four (sumOf zs)).map B8) := by
    have := (Own.ofRow hown2).mono (base' := w.heap.size) (by simp; omega)
    simp only [List.flatten_cons, List.flatten_nil, List.append_nil] at this
    rw [hlen] at this; simpa using this
  have HB2 := Lib.hid (HB.out.trans ((Below.refl _ _).alloc (Nat.le_refl _) _ |>.mono hsz1) |>.trans (hb2.mono (by simp; omega)))
  clear hown2 hb2 hlen
  obtain ⟨ao2, c2, rfl, _, hc2, hm2, _⟩ := hown2'.rd
  have HO2 := Lib.hid hown2'
  clear hown2'
  go_wp2_with fail
  refine (clip_any ao2 _ _ _ hc2 hm2).mono ?_
  rintro e w3 ⟨rfl, rfl⟩
  go_wp2_with fail
  go_ret
  exact ⟨_, rfl, HO2.out.clip, HB2.out⟩
end Go.Proofs.YtlinhcbjljcgbaaDoor
