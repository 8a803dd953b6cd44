/- A ledger in memory: its cells, and its map. -/
import Derived.Test.YtacglcpjbepfnaaLedMap
import Derived.Test.YtacglcpjbepfnaaLedPos
import Derived.Test.YtacglcpjbepfnaaLedSet
import Derived.Test.YtacglcpjbepfnaaCells
import Derived.Test.YtacglcpjbepfnaaHeapRegion
import Derived.Test.YtacglcpjbepfnaaRows
import Derived.Shelf.SlMaps.Clone
namespace Go.Proofs.Ytacglcpjbepfnaa
open Go.RowKit
set_option linter.unusedSimpArgs false
set_option linter.unusedVariables false
set_option maxRecDepth 100000
theorem cell_cur : CellTy 24 := ⟨⟨_, Try.underlying24, rfl⟩, by kernel_rfl⟩
theorem cell_map : CellTy 66 := ⟨⟨_, Try.underlying66, rfl⟩, by kernel_rfl⟩
/-! The key's type. -/
theorem ends_und : ∃ fs, Try.prog.underlying 118 = some (.struct fs) := ⟨_, Try.underlying118⟩
theorem ends_law : WideMaps.KeyLaw Try.prog 118 := deep_law_laid (by kernel_rfl) (m := 2) (by omega) (of_decide_eq_true (by kernel_rfl)) (by kernel_rfl) (by kernel_rfl)
def KL (v : Value) : Prop := ∃ l, keyOf Try.prog 118 v = some l
theorem key_ty : KeyTy 118 KL := KeyTy.of ends_law
theorem wf_u8 {a : Int} (h : 0 ≤ a ∧ a ≤ 255) : (Lit.int .u8 a).wf = true := by
  simp [Lit.wf, IntKind.min, IntKind.max, IntKind.bits, IntKind.signed]; omega
theorem key_ok {a b c : Int} (ha : 0 ≤ a ∧ a ≤ 255) (hb : 0 ≤ b ∧ b ≤ 255) (hc : 0 ≤ c ∧ c ≤ 255) : KL (keyL a b c) := by
  have h1 : Try.prog.keyType 118 = true := by kernel_rfl
  have h2 : Try.prog.cellsOf 118 = 3 := by kernel_rfl
  have h3 : Try.prog.cellsOf 23 = 1 := by kernel_rfl
  have h4 : Try.prog.cellsOf 24 = 1 := by kernel_rfl
  obtain ⟨m, hm⟩ : ∃ m, Try.prog.types.size + 1 = m + 2 := by
    have : 1 ≤ Try.prog.types.size := of_decide_eq_true (by kernel_rfl)
    exact ⟨Try.prog.types.size - 1, by omega⟩
  unfold KL keyOf keyL ends
  rw [hm]
  simp [Try.underlying118, h1, Value.cells, Value.formed, h2, Program.keyLits, Try.underlying23, Try.underlying24, h3, h4, wf_u8 ha, wf_u8 hb, wf_u8 hc]
theorem map_ty : MapTy 66 118 120 KL (valL 0 0) := ⟨Try.underlying66, key_ty, fun w => by kernel_rfl⟩
/-! The cells. -/
/-- Is it among these? -/
def hasP (P : List Int) (a : Int) : Bool := decide (a ∈ P)
def ledA (P : List Int) (m : Option Nat) : Array Value := tab 18 fun i => if i < 17 then .bool (hasP P (i : Int)) else .map m
def parA (P : List Int) : Array Value := tab 17 fun i => .bool (hasP P (i : Int))
theorem ledA_sz (P : List Int) (m : Option Nat) : (ledA P m).size = 18 := tab_size _ _
theorem parA_sz (P : List Int) : (parA P).size = 17 := tab_size _ _
theorem ledA_get (P : List Int) (m : Option Nat) {a : Nat} (h : a < 17) : (ledA P m)[a]? = some (.bool (hasP P (a : Int))) := by
  unfold ledA
  rw [tab_get _ (by omega), if_pos h]
theorem ledA_getb (P : List Int) (m : Option Nat) {a : Nat} {b : Bool} (h : a < 17) (e : hasP P (a : Int) = b) : (ledA P m)[a]? = some (.bool b) := e ▸ ledA_get P m h
theorem ledA_map (P : List Int) (m : Option Nat) : (ledA P m)[17]? = some (.map m) := by
  unfold ledA
  rw [tab_get _ (by omega), if_neg (by omega)]
theorem ledA_set (P : List Int) (m : Option Nat) {a : Nat} (h : a < 17) : (ledA P m).setIfInBounds a (.bool true) = ledA (insP P a) m := by
  unfold ledA
  rw [tab_set _ _ (by omega)]
  apply tab_congr
  intro i hi
  by_cases e : i = a
  · subst e
    rw [if_pos rfl, if_pos h]
    simp [hasP, insP_mem]
  · rw [if_neg e]
    split
    · unfold hasP
      congr 1
      have : ((i : Int) ∈ insP P a) ↔ ((i : Int) ∈ P) := by
        rw [insP_mem]
        constructor
        · rintro (h | h)
          · exact h
          · omega
        · exact .inl
      simp [this]
    · rfl
theorem ledA_setMap (P : List Int) (m m' : Option Nat) : (ledA P m).setIfInBounds 17 (.map m') = ledA P m' := by
  unfold ledA
  rw [tab_set _ _ (by omega)]
  apply tab_congr
  intro i hi
  by_cases e : i = 17
  · subst e; rw [if_pos rfl, if_neg (by omega)]
  · rw [if_neg e, if_pos (by omega), if_pos (by omega)]
theorem ledA_par (P : List Int) (m : Option Nat) : (ledA P m).extract 0 (0 + 17) = parA P := by
  unfold ledA parA
  rw [tab_ext _ (by omega)]
  apply tab_congr
  intro i hi
  rw [Nat.zero_add, if_pos hi]
theorem ledA_all (P : List Int) (m : Option Nat) : (ledA P m).extract 0 (0 + 18) = ledA P m := by
  have := ledA_sz P m
  simp [← this]
theorem parA_all (P : List Int) : (parA P).extract 0 (0 + 17) = parA P := by
  have := parA_sz P
  simp [← this]
theorem parA_get (P : List Int) {a : Nat} (h : a < 17) : (parA P)[a]? = some (.bool (hasP P (a : Int))) := tab_get _ h
theorem ledA_cells (P : List Int) (m : Option Nat) : Cells 18 (ledA P m) := tab_cells fun i _ => by split <;> rfl
theorem parA_cells (P : List Int) : Cells 17 (parA P) := tab_cells fun i _ => rfl
theorem ledA_splice (P P' : List Int) (m m' : Option Nat) : splice (ledA P m) 0 (ledA P' m') = ledA P' m' := splice_all (by rw [ledA_sz, ledA_sz])
theorem parA_splice (P P' : List Int) : splice (parA P) 0 (parA P') = parA P' := splice_all (by rw [parA_sz, parA_sz])
theorem row_led : RowTy 68 18 (ledA [] none) := ⟨⟨_, Try.underlying68, rfl⟩, by kernel_rfl, by kernel_rfl⟩
theorem row_par : RowTy 65 17 (parA []) := ⟨⟨_, Try.underlying65, rfl⟩, by kernel_rfl, by kernel_rfl⟩
theorem row_ends : RowTy 118 3 (ends 0 0 0) := ⟨⟨_, Try.underlying118, rfl⟩, by kernel_rfl, by kernel_rfl⟩
theorem row_owe : RowTy 120 2 (owe 0 0) := ⟨⟨_, Try.underlying120, rfl⟩, by kernel_rfl, by kernel_rfl⟩
theorem ends_all (a b c : Int) : (ends a b c).extract 0 (0 + 3) = ends a b c := by simp
theorem owe_all (a b : Int) : (owe a b).extract 0 (0 + 2) = owe a b := by simp
theorem ends_cells (a b c : Int) : Cells 3 (ends a b c) := ⟨rfl, by simp [Value.oneCell']⟩
theorem owe_cells (a b : Int) : Cells 2 (owe a b) := ⟨rfl, by simp [Value.oneCell']⟩
theorem ends_splice (a b c x y z : Int) : splice (ends a b c) 0 (ends x y z) = ends x y z := splice_all rfl
theorem owe_splice (a b x y : Int) : splice (owe a b) 0 (owe x y) = owe x y := splice_all rfl
/-- A map held against nil. -/
theorem run_neq_map_nil {P : Program} (w : World) (t k e : TypeId) (p : Option Nat) (h : P.underlying t = some (.map k e)) : (binOp .neq t (.map p) (.map none)).run P w = .ok (.bool p.isSome) w := by
  have h2 := run_equalIn_map_nil_sl (P := P) w 9999 t k e p h
  simp only [binOp]
  simp [show Op.equal t (.map p) (.map none) = Op.equalIn (9999 + 1) t (.map p) (.map none) from rfl, h2]
theorem run_neq_mapL (p : Option Nat) (w : World) : (binOp .neq 66 (.map p) (.map none)).run Try.prog w = .ok (.bool p.isSome) w := run_neq_map_nil w _ _ _ p Try.underlying66
abbrev LdC (p : Nat) (P : List Int) (m : Option Nat) : Thing := Cel p (ledA P m) 68
abbrev LdM (q : Nat) (L : List Lin) : Thing := MapT KL q (prs L)
end Go.Proofs.Ytacglcpjbepfnaa
