/- FramesCut: part 12 of its proof: Open18, LawFramesCut2, Tab. -/
import Derived.Test.YtlinhcbjljcgbaaDoorFramesCutPart11
import Derived.Test.YtlinhcbjljcgbaaDoorRows
import Derived.ProofKit
import Derived.LaidMore
import Derived.Lib.LaidTab
import Derived.Stop.Joined
/- Lists of bodies as an argument. -/
namespace Go.Proofs.YtlinhcbjljcgbaaDoor
open Go.ChangeShapes Go.WideShapes Go.ChangeAt Go.RowKit
set_option linter.unusedVariables false
set_option maxRecDepth 100000
theorem flat_byte : flat Tryd.prog 9 5 = some [5] := by kernel_rfl
theorem flat_bytes : flat Tryd.prog 9 22 = some [22] := by kernel_rfl
theorem leaf_byte {w : World} {v : Value} (h : ∀ d, LeafOk Tryd.prog w d 5 v) : ∃ b : BitVec 8, v = B8 b := by
  obtain ⟨n, rfl, hw⟩ := leaf_int Tryd.underlying5 h
  have := bounds_u8 hw
  obtain ⟨b, hb⟩ := exists_I8 n this.1 (by omega)
  exact ⟨b, by rw [hb]; rfl⟩
theorem bytes_of {w : World} : ∀ (n : Nat) (xs : List Value), xs.length = n → (∀ i, i < n → ∃ v, xs[i]? = some v ∧ ∀ d, LeafOk Tryd.prog w d 5 v) → ∃ zs : Bs, zs.length = n ∧ xs = zs.map B8
  | 0, xs, hl, _ => ⟨[], rfl, by simpa using hl⟩
  | n + 1, [], hl, _ => by simp at hl
  | n + 1, x :: xs, hl, h => by
    obtain ⟨v, hv, hk⟩ := h 0 (by omega)
    simp at hv
    subst hv
    obtain ⟨b, rfl⟩ := leaf_byte hk
    obtain ⟨zs, hz, rfl⟩ := bytes_of n xs (by simpa using hl) (fun i hi => by simpa using h (i + 1) (by omega))
    exact ⟨b :: zs, by simp [hz], rfl⟩
theorem leaf_bytes {w : World} {v : Value} (h : ∀ d, LeafOk Tryd.prog w d 22 v) : ∃ a c zs, v = .slice a (zs : Bs).length c ∧ zs.length ≤ c ∧ c ≤ maxLen ∧ Rd w a (zs.map B8) := by
  obtain ⟨a, n, c, xs, rfl, hn, hc, hl, hr, _, hp⟩ := leaf_slice Tryd.underlying22 flat_byte h
  rw [show Tryd.prog.cellsOf 5 = 1 by kernel_rfl] at hl hp
  obtain ⟨zs, hz, rfl⟩ := bytes_of (w := w) n xs (by simpa using hl) (fun i hi => by simpa using hp i 0 _ hi rfl)
  subst hz
  exact ⟨a, c, zs, rfl, hn, hc, hr⟩
theorem lists_of {w : World} : ∀ (n : Nat) (xs : List Value), xs.length = n → (∀ i, i < n → ∃ v, xs[i]? = some v ∧ ∀ d, LeafOk Tryd.prog w d 22 v) → ∃ L : List (Value × Bs), L.length = n ∧ xs = L.map (·.1) ∧ ∀ x ∈ L, ∃ ai ci, x.1 = .slice ai x.2.length ci ∧ x.2.length ≤ ci ∧ ci ≤ maxLen ∧ Rd w ai (x.2.map B8)
  | 0, xs, hl, _ => ⟨[], rfl, by simpa using hl, by simp⟩
  | n + 1, [], hl, _ => by simp at hl
  | n + 1, x :: xs, hl, h => by
    obtain ⟨v, hv, hk⟩ := h 0 (by omega)
    simp at hv
    subst hv
    obtain ⟨a, c, zs, rfl, h1, h2, h3⟩ := leaf_bytes hk
    obtain ⟨L, hL, rfl, hall⟩ := lists_of n xs (by simpa using hl) (fun i hi => by simpa using h (i + 1) (by omega))
    refine ⟨(.slice a zs.length c, zs) :: L, by simp [hL], rfl, fun y hy => ?_⟩
    rcases List.mem_cons.1 hy with rfl | hy
    · exact ⟨a, c, rfl, h1, h2, h3⟩
    · exact hall y hy
def ListsV (w : World) (v : Value) : Prop := ∃ a n c L, v = .slice a n c ∧ InL w a n c L
theorem open_lists {H : Type} {enc : TypeId × Value → H} {W : World} {held : Bool} {v : Value} {d : DataW H} {p : List MemPlace} {r : Reach} {b0 : Nat}
    (hval : Value.okWide Tryd.prog W r b0 40 v) (h : DataW.Trod enc Tryd.prog W 0 (fun _ => true) held 40 v d p) : ListsV W v := by
  have hk := fun d => open_sl Tryd.underlying40 hval h d
  obtain ⟨a, n, c, xs, rfl, hn, hc, hl, hr, _, hp⟩ := leaf_slice Tryd.underlying40 flat_bytes hk
  rw [show Tryd.prog.cellsOf 22 = 1 by kernel_rfl] at hl hp
  obtain ⟨L, hL, rfl, hall⟩ := lists_of (w := W) n xs (by simpa using hl) (fun i hi => by simpa using hp i 0 _ hi rfl)
  exact ⟨a, n, c, L, rfl, hL, hn, hc, hr, hall⟩
end Go.Proofs.YtlinhcbjljcgbaaDoor

/- FramesCut: its arguments. -/
namespace Go.Proofs.YtlinhcbjljcgbaaDoor
open Go.RowKit
set_option maxRecDepth 100000
theorem framesCut_law (v : Value) (x : Int) (W : World) (o : ListsV W v) (b1 : 0 ≤ x) (b2 : x ≤ 65535) (ht : TabAt W) :
    Calls Tryd.prog 8 #[v, .int .u16 x] W fun e w' => e = .returned (.bool true) ∧ Below W.heap.size W w' := by
  obtain ⟨a, n, c, L, rfl, hI⟩ := o
  obtain ⟨z, rfl⟩ : ∃ z : Nat, x = z := ⟨x.toNat, by omega⟩
  have H := Heap.start W
  cases hg : greatF (L.map (·.2)) 0 with
  | true => exact (fcut18_many a n c z L hI hg ht H).mono fun e w' ⟨he, hh⟩ => ⟨he, hh.low⟩
  | false => exact (fcut18_H a n c z (by omega) L hI hg ht H).mono fun e w' ⟨he, hh⟩ => ⟨he, hh.low⟩
end Go.Proofs.YtlinhcbjljcgbaaDoor

/- The table of half bytes: what the row's condition on it gives a walk, and a world that meets the condition. -/
namespace Go.Proofs.YtlinhcbjljcgbaaDoor
open Go.ChangeShapes Go.WideShapes Go.ChangeAt Go.RowKit

theorem own : ownKnob Tryd.prog.godebug = none := by kernel_rfl
theorem laidOut : laidOutB Tryd.prog = true := by kernel_rfl
theorem gTab : Tryd.prog.globalNamed "countinghouse/sums.table" = some 0 := by kernel_rfl
theorem tTab : (Tryd.prog.globals[0]?).map (·.type) = some 56 := by kernel_rfl
abbrev laidL : List (String × DataW Unit) := [("countinghouse/sums.table", Rows.laid_countinghouse_sums_table)]
theorem door_met (os : Os) (args : Array Value) : laidMetH Tryd.prog laidL ((World.doorLaid Tryd.prog 14 os).forCall (fun _ _ => 0) ⟨#[], args, []⟩).memory :=
  laidMetH_of_parts3 (fuel := 8) (laidMet_of_run' 8 (by kernel_rfl) (by kernel_rfl)) (by kernel_rfl) (by kernel_rfl)

theorem tab_of_laid {W : World} (h : laidMetH Tryd.prog laidL W) : TabAt W := by
  rw [MakeChecks.laidMetH_plain _ _ _ (by kernel_rfl)] at h
  have hT : Lib.TabIs Tryd.prog W "countinghouse/sums.table" .u32 (tabL.map I32) :=
    Lib.tabIs_of_head gTab tTab Tryd.underlying56 Tryd.underlying25 (by kernel_rfl) (by kernel_rfl) (rest := []) (by
      have e : Lib.tabData .u32 (tabL.map I32) = (Rows.laid_countinghouse_sums_table : DataW Unit) := by kernel_rfl
      rw [e]; exact h)
  intro x
  have hlt : (x &&& 15#32).toNat < 16 := by have := I32_15 x; unfold I32 at this; omega
  have hi : (I32 (x &&& 15#32)).toNat < (tabL.map I32).length := by unfold I32; simpa [tabL] using hlt
  have := hT.cell gTab _ hi
  rw [this]
  unfold tab
  congr 2
  simp only [List.getD_eq_getElem?_getD, List.getElem?_map]
  have e : (I32 (x &&& 15#32)).toNat = (x &&& 15#32).toNat := by unfold I32; omega
  rw [e, List.getElem?_eq_getElem (by simpa [tabL] using hlt)]
  rfl
end Go.Proofs.YtlinhcbjljcgbaaDoor
