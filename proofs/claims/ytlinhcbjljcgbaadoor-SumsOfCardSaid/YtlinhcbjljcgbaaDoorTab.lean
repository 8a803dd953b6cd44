/- The table of half bytes: what the row's condition on it gives a walk, and a world that meets the condition. -/
import Derived.Test.YtlinhcbjljcgbaaDoorMore
import Derived.Test.YtlinhcbjljcgbaaDoorRows
import Derived.ProofKit
import Derived.LaidMore
import Derived.Lib.LaidTab
import Derived.Stop.Joined
namespace Go.Proofs.YtlinhcbjljcgbaaDoor
open Go.ChangeShapes Go.WideShapes Go.ChangeAt Go.RowKit

theorem own : ownKnob Tryd.prog.godebug = none := by kernel_rfl
theorem laidOut : laidOutB Tryd.prog = true := by kernel_rfl
theorem gTab : Tryd.prog.globalNamed "countinghouse/sums.table" = some 0 := by kernel_rfl
theorem tTab : (Tryd.prog.globals[0]?).map (·.type) = some 56 := by kernel_rfl
abbrev laidL : List (String × DataW Unit) := [("countinghouse/sums.table", Rows.laid_countinghouse_sums_table)]
theorem door_met (os : Os) (args : Array Value) : laidMetH Tryd.prog laidL ((World.doorLaid Tryd.prog 14 os).forCall (fun _ _ => 0) ⟨#[], args, []⟩).memory :=
  laidMetH_of_parts3 (fuel := 8) (laidMet_of_run' 8 (by kernel_rfl) (by kernel_rfl)) (by kernel_rfl) (by kernel_rfl)

theorem tab_of_laid {W : World} (h : laidMetH Tryd.prog laidL W) : TabAt W := by
  rw [MakeChecks.laidMetH_plain _ _ _ (by kernel_rfl)] at h
  have hT : Lib.TabIs Tryd.prog W "countinghouse/sums.table" .u32 (tabL.map I32) :=
    Lib.tabIs_of_head gTab tTab Tryd.underlying56 Tryd.underlying25 (by kernel_rfl) (by kernel_rfl) (rest := []) (by
      have e : Lib.tabData .u32 (tabL.map I32) = (Rows.laid_countinghouse_sums_table : DataW Unit) := by kernel_rfl
      rw [e]; exact h)
  intro x
  have hlt : (x &&& 15#32).toNat < 16 := by have := I32_15 x; unfold I32 at this; omega
  have hi : (I32 (x &&& 15#32)).toNat < (tabL.map I32).length := by unfold I32; simpa [tabL] using hlt
  have := hT.cell gTab _ hi
  rw [this]
  unfold tab
  congr 2
  simp only [List.getD_eq_getElem?_getD, List.getElem?_map]
  have e : (I32 (x &&& 15#32)).toNat = (x &&& 15#32).toNat := by unfold I32; omega
  rw [e, List.getElem?_eq_getElem (by simpa [tabL] using hlt)]
  rfl
end Go.Proofs.YtlinhcbjljcgbaaDoor
