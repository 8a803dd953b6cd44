/- The chapter's examples of layer 15 come out true. -/
import Derived.Test.YtlinhcbjljcgbaaDoorEnds
import Derived.Lib.SlBytesConst
namespace Go.Proofs.YtlinhcbjljcgbaaDoor
open Go.RowKit

theorem sum9 : sumOf [49#8, 50#8, 51#8, 52#8, 53#8, 54#8, 55#8, 56#8, 57#8] = 3421780262#32 := by decide +kernel
theorem sum0 : sumOf [] = 0#32 := by decide +kernel
def p5 : List (BitVec 8) := [0#8, 0x8d#8, 0xef#8, 0x02#8, 0xd2#8]
theorem put0 : ([0#8] ++ four (sumOf [0#8])) = p5 := by decide +kernel
theorem ends0 : endsOf p5 = true := by decide +kernel
theorem ends3 : endsOf [1#8, 2#8, 3#8] = false := by decide +kernel

set_option maxHeartbeats 1000000 in
theorem lives_any (w : World) (ht : TabAt w) :
    Calls Tryd.prog 10 #[] w fun e w' => e = .returned (.bool true) ∧ Below w.heap.size w w' := by
  have HT := Lib.hid ht; clear ht
  have kc := fun (w : World) (C : Array Value) (n c : Nat) => Lib.run_convert_bytes_const (P := Tryd.prog) w 22 5 C n c Tryd.underlying22 Tryd.underlying5
  go_enter Tryd.func10, Tryd.ntmps10
  go_wp2_with fail
  refine (put_any (some ⟨w.heap.size, 0, none⟩) 1 1 [0#8] _ rfl (by omega) (Rd.lit w #[.int .u8 0] _ _) (HT.out.below ((Below.refl _ _).alloc (Nat.le_refl _) _))).mono ?_
  rintro e w1 ⟨v, rfl, hown, hb⟩
  rw [put0] at hown
  have hb' := ((Below.refl _ _).alloc (Nat.le_refl _) _).trans (hb.mono (B' := w.heap.size) (by simp))
  clear hb
  obtain ⟨ao, c, rfl, hrd, hc, hm, _⟩ := hown.rd
  have HO := Lib.hid hown
  have HR := Lib.hid hrd
  have HB := Lib.hid hb'
  have hz := hb'.size
  clear hown hrd hb'
  go_wp2_with fail
  refine (of_any _ 9 9 [49#8, 50#8, 51#8, 52#8, 53#8, 54#8, 55#8, 56#8, 57#8] _ rfl (by unfold maxLen; omega) (Rd.lit w1 #[.int .u8 49, .int .u8 50, .int .u8 51, .int .u8 52, .int .u8 53, .int .u8 54, .int .u8 55, .int .u8 56, .int .u8 57] _ _) ((HT.out.below HB.out).below ((Below.refl _ _).alloc (Nat.le_refl _) _))).mono ?_
  rintro e w2 ⟨rfl, rfl⟩
  rw [sum9]
  have i9 : I32 3421780262#32 = 3421780262 := by decide +kernel
  rw [i9]
  clear i9
  go_wp2_with fail
  refine (of_any none 0 0 [] _ rfl (by unfold maxLen; omega) (Rd.nil _ _) ((HT.out.below HB.out).below ((Below.refl _ _).alloc (Nat.le_refl _) _))).mono ?_
  rintro e w2 ⟨rfl, rfl⟩
  rw [sum0]
  have i0 : I32 0#32 = 0 := by decide +kernel
  rw [i0]
  clear i0
  have hst : ∀ o, (convert 22 9 (.slice ao 5 c)).run Tryd.prog (w1.alloc o) = .ok (.string { data := #[0, 141, 239, 2, 210] }) (w1.alloc o) := fun o =>
    run_toString (w1.alloc o) Tryd.underlying22 Tryd.underlying5 Tryd.underlying9 ao 5 c p5 rfl (HR.out.alloc _)
  go_wp2_with fail
  refine (ends_any ao 5 c p5 _ rfl (by omega) hc hm (HR.out.alloc _) ((HT.out.below HB.out).below ((Below.refl _ _).alloc (Nat.le_refl _) _))).mono ?_
  rintro e w2 ⟨rfl, hb2⟩
  rw [ends0]
  clear hst
  have HB2 := Lib.hid ((HB.out.trans ((Below.refl _ _).alloc (Nat.le_refl _) _ |>.mono hz)).trans (hb2.mono (B' := w.heap.size) (by simp; omega)))
  have hz2 := HB2.out.size
  clear hb2
  go_wp2_with fail
  refine (ends_any (some ⟨w2.heap.size, 0, none⟩) 3 3 [1#8, 2#8, 3#8] _ rfl (by omega) (by omega) (by unfold maxLen; omega) (Rd.lit w2 #[.int .u8 1, .int .u8 2, .int .u8 3] _ _) ((HT.out.below HB2.out).below ((Below.refl _ _).alloc (Nat.le_refl _) _))).mono ?_
  rintro e w3 ⟨rfl, hb3⟩
  rw [ends3]
  go_wp2_with fail
  go_ret
  exact ⟨rfl, (HB2.out.trans ((Below.refl _ _).alloc (Nat.le_refl _) _ |>.mono hz2)).trans (hb3.mono (B' := w.heap.size) (by simp; omega))⟩
end Go.Proofs.YtlinhcbjljcgbaaDoor
