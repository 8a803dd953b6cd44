/- FramesPut: part 11 of its proof: LawFramesPut2, Tab. -/
import Derived.Test.YtlinhcbjljcgbaaDoorFramesPutPart10
import Derived.Test.YtlinhcbjljcgbaaDoorRows
import Derived.ProofKit
import Derived.LaidMore
import Derived.Lib.LaidTab
import Derived.Stop.Joined
/- FramesPut: its arguments. -/
namespace Go.Proofs.YtlinhcbjljcgbaaDoor
open Go.RowKit
set_option maxRecDepth 100000
theorem framesPut_law (a0 : Option Addr) (n0 c0 : Nat) (z0 : List (BitVec 8)) (a1 : Option Addr) (n1 c1 : Nat) (z1 : List (BitVec 8)) (W : World) (o0 : IsBytes W a0 n0 c0 z0) (o1 : IsBytes W a1 n1 c1 z1) (ht : TabAt W) :
    Calls Tryd.prog 6 #[.slice a0 n0 c0, .slice a1 n1 c1] W fun e w' => e = .returned (.bool true) ∧ Below W.heap.size W w' := by
  have hn := o0.cap
  have hm := o0.max
  have hn1 := o1.cap
  have hm1 := o1.max
  unfold maxLen at hm hm1
  have H := Heap.start W
  by_cases h : 9000 < n0 ∨ 9000 < n1
  · exact (fput_many a0 a1 n0 n1 c0 c1 h (by omega) (by omega) ht H).mono fun e w' ⟨he, hh⟩ => ⟨he, hh.low⟩
  · exact (fput_H a0 a1 n0 n1 c0 c1 z0 z1 (by omega) (by omega) o0.len.symm o1.len.symm ht (fun _ w' _ H => H.rd o0.rd) (fun _ w' _ H => H.rd o1.rd) H).mono fun e w' ⟨he, hh⟩ => ⟨he, hh.low⟩
end Go.Proofs.YtlinhcbjljcgbaaDoor

/- The table of half bytes: what the row's condition on it gives a walk, and a world that meets the condition. -/
namespace Go.Proofs.YtlinhcbjljcgbaaDoor
open Go.ChangeShapes Go.WideShapes Go.ChangeAt Go.RowKit

theorem own : ownKnob Tryd.prog.godebug = none := by kernel_rfl
theorem laidOut : laidOutB Tryd.prog = true := by kernel_rfl
theorem gTab : Tryd.prog.globalNamed "countinghouse/sums.table" = some 0 := by kernel_rfl
theorem tTab : (Tryd.prog.globals[0]?).map (·.type) = some 56 := by kernel_rfl
abbrev laidL : List (String × DataW Unit) := [("countinghouse/sums.table", Rows.laid_countinghouse_sums_table)]
theorem door_met (os : Os) (args : Array Value) : laidMetH Tryd.prog laidL ((World.doorLaid Tryd.prog 14 os).forCall (fun _ _ => 0) ⟨#[], args, []⟩).memory :=
  laidMetH_of_parts3 (fuel := 8) (laidMet_of_run' 8 (by kernel_rfl) (by kernel_rfl)) (by kernel_rfl) (by kernel_rfl)

theorem tab_of_laid {W : World} (h : laidMetH Tryd.prog laidL W) : TabAt W := by
  rw [MakeChecks.laidMetH_plain _ _ _ (by kernel_rfl)] at h
  have hT : Lib.TabIs Tryd.prog W "countinghouse/sums.table" .u32 (tabL.map I32) :=
    Lib.tabIs_of_head gTab tTab Tryd.underlying56 Tryd.underlying25 (by kernel_rfl) (by kernel_rfl) (rest := []) (by
      have e : Lib.tabData .u32 (tabL.map I32) = (Rows.laid_countinghouse_sums_table : DataW Unit) := by kernel_rfl
      rw [e]; exact h)
  intro x
  have hlt : (x &&& 15#32).toNat < 16 := by have := I32_15 x; unfold I32 at this; omega
  have hi : (I32 (x &&& 15#32)).toNat < (tabL.map I32).length := by unfold I32; simpa [tabL] using hlt
  have := hT.cell gTab _ hi
  rw [this]
  unfold tab
  congr 2
  simp only [List.getD_eq_getElem?_getD, List.getElem?_map]
  have e : (I32 (x &&& 15#32)).toNat = (x &&& 15#32).toNat := by unfold I32; omega
  rw [e, List.getElem?_eq_getElem (by simpa [tabL] using hlt)]
  rfl
end Go.Proofs.YtlinhcbjljcgbaaDoor
