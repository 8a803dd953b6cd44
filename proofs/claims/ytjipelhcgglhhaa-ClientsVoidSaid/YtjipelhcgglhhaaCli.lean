/- clients.Client in memory: its block, its letters' rows, and what its readers answer. -/
import Derived.Test.YtjipelhcgglhhaaHeap
import Derived.Test.YtjipelhcgglhhaaRows
import Derived.Lib.AppendZeros
import Derived.Laws.MakeOwn
import Derived.Laws.OwnMore
import Derived.Lib.BufferMore
namespace Go.Proofs.Ytjipelhcgglhhaa
open Go.RowKit
set_option linter.unusedSimpArgs false
set_option linter.unusedVariables false

theorem cell_i64 : CellTy 3 := ⟨⟨_, Try.underlying3, rfl⟩, by kernel_rfl⟩
theorem cell_u64 : CellTy 26 := ⟨⟨_, Try.underlying26, rfl⟩, by kernel_rfl⟩
theorem cell_b8 : CellTy 5 := ⟨⟨_, Try.underlying5, rfl⟩, by kernel_rfl⟩
theorem cell_bool : CellTy 4 := ⟨⟨_, Try.underlying4, rfl⟩, by kernel_rfl⟩
theorem cell_steps : CellTy 22 := ⟨⟨_, Try.underlying22, rfl⟩, by kernel_rfl⟩

def cli (id : Int) (n : Int) (to : Int) (num : Int) (waits : Int) (kind : Int) (frm : Int) (lto : Int) (cid : Int) (cnum : Int) (steps : Value) (is : Bool) : Array Value := #[.int .u8 id, .int .i64 n, .int .i64 to, .int .u64 num, .int .i64 waits, .int .u8 kind, .int .u8 frm, .int .u8 lto, .int .u64 0, .int .u64 0, .int .u64 0, .int .u64 0, .bool false, .slice none 0 0, .slice none 0 0, .int .u8 cid, .int .u64 cnum, steps, .int .i64 0, .int .i64 0, .int .i64 0, .slice none 0 0, .bool is]
section
variable (id : Int) (n : Int) (to : Int) (num : Int) (waits : Int) (kind : Int) (frm : Int) (lto : Int) (cid : Int) (cnum : Int) (steps : Value) (is : Bool)
theorem cli_sz : (cli id n to num waits kind frm lto cid cnum steps is).size = 23 := rfl
theorem cli_g0 : (cli id n to num waits kind frm lto cid cnum steps is)[0]? = some (.int .u8 id) := rfl
theorem cli_s0 (v : Int) : (cli id n to num waits kind frm lto cid cnum steps is).setIfInBounds 0 (.int .u8 v) = cli v n to num waits kind frm lto cid cnum steps is := rfl
theorem cli_g1 : (cli id n to num waits kind frm lto cid cnum steps is)[1]? = some (.int .i64 n) := rfl
theorem cli_s1 (v : Int) : (cli id n to num waits kind frm lto cid cnum steps is).setIfInBounds 1 (.int .i64 v) = cli id v to num waits kind frm lto cid cnum steps is := rfl
theorem cli_g2 : (cli id n to num waits kind frm lto cid cnum steps is)[2]? = some (.int .i64 to) := rfl
theorem cli_s2 (v : Int) : (cli id n to num waits kind frm lto cid cnum steps is).setIfInBounds 2 (.int .i64 v) = cli id n v num waits kind frm lto cid cnum steps is := rfl
theorem cli_g3 : (cli id n to num waits kind frm lto cid cnum steps is)[3]? = some (.int .u64 num) := rfl
theorem cli_s3 (v : Int) : (cli id n to num waits kind frm lto cid cnum steps is).setIfInBounds 3 (.int .u64 v) = cli id n to v waits kind frm lto cid cnum steps is := rfl
theorem cli_g4 : (cli id n to num waits kind frm lto cid cnum steps is)[4]? = some (.int .i64 waits) := rfl
theorem cli_s4 (v : Int) : (cli id n to num waits kind frm lto cid cnum steps is).setIfInBounds 4 (.int .i64 v) = cli id n to num v kind frm lto cid cnum steps is := rfl
theorem cli_g5 : (cli id n to num waits kind frm lto cid cnum steps is)[5]? = some (.int .u8 kind) := rfl
theorem cli_s5 (v : Int) : (cli id n to num waits kind frm lto cid cnum steps is).setIfInBounds 5 (.int .u8 v) = cli id n to num waits v frm lto cid cnum steps is := rfl
theorem cli_g6 : (cli id n to num waits kind frm lto cid cnum steps is)[6]? = some (.int .u8 frm) := rfl
theorem cli_s6 (v : Int) : (cli id n to num waits kind frm lto cid cnum steps is).setIfInBounds 6 (.int .u8 v) = cli id n to num waits kind v lto cid cnum steps is := rfl
theorem cli_g7 : (cli id n to num waits kind frm lto cid cnum steps is)[7]? = some (.int .u8 lto) := rfl
theorem cli_s7 (v : Int) : (cli id n to num waits kind frm lto cid cnum steps is).setIfInBounds 7 (.int .u8 v) = cli id n to num waits kind frm v cid cnum steps is := rfl
theorem cli_g8 : (cli id n to num waits kind frm lto cid cnum steps is)[8]? = some (.int .u64 0) := rfl
theorem cli_g9 : (cli id n to num waits kind frm lto cid cnum steps is)[9]? = some (.int .u64 0) := rfl
theorem cli_g10 : (cli id n to num waits kind frm lto cid cnum steps is)[10]? = some (.int .u64 0) := rfl
theorem cli_g11 : (cli id n to num waits kind frm lto cid cnum steps is)[11]? = some (.int .u64 0) := rfl
theorem cli_g12 : (cli id n to num waits kind frm lto cid cnum steps is)[12]? = some (.bool false) := rfl
theorem cli_g13 : (cli id n to num waits kind frm lto cid cnum steps is)[13]? = some (.slice none 0 0) := rfl
theorem cli_g14 : (cli id n to num waits kind frm lto cid cnum steps is)[14]? = some (.slice none 0 0) := rfl
theorem cli_g15 : (cli id n to num waits kind frm lto cid cnum steps is)[15]? = some (.int .u8 cid) := rfl
theorem cli_s15 (v : Int) : (cli id n to num waits kind frm lto cid cnum steps is).setIfInBounds 15 (.int .u8 v) = cli id n to num waits kind frm lto v cnum steps is := rfl
theorem cli_g16 : (cli id n to num waits kind frm lto cid cnum steps is)[16]? = some (.int .u64 cnum) := rfl
theorem cli_s16 (v : Int) : (cli id n to num waits kind frm lto cid cnum steps is).setIfInBounds 16 (.int .u64 v) = cli id n to num waits kind frm lto cid v steps is := rfl
theorem cli_g17 : (cli id n to num waits kind frm lto cid cnum steps is)[17]? = some (steps) := rfl
theorem cli_s17 (v : Value) : (cli id n to num waits kind frm lto cid cnum steps is).setIfInBounds 17 (v) = cli id n to num waits kind frm lto cid cnum v is := rfl
theorem cli_g18 : (cli id n to num waits kind frm lto cid cnum steps is)[18]? = some (.int .i64 0) := rfl
theorem cli_g19 : (cli id n to num waits kind frm lto cid cnum steps is)[19]? = some (.int .i64 0) := rfl
theorem cli_g20 : (cli id n to num waits kind frm lto cid cnum steps is)[20]? = some (.int .i64 0) := rfl
theorem cli_g21 : (cli id n to num waits kind frm lto cid cnum steps is)[21]? = some (.slice none 0 0) := rfl
theorem cli_g22 : (cli id n to num waits kind frm lto cid cnum steps is)[22]? = some (.bool is) := rfl
theorem cli_s22 (v : Bool) : (cli id n to num waits kind frm lto cid cnum steps is).setIfInBounds 22 (.bool v) = cli id n to num waits kind frm lto cid cnum steps v := rfl
end
def lett (kind : Int) (frm : Int) (lto : Int) (cid : Int) (cnum : Int) (steps : Value) : Array Value := #[.int .u8 kind, .int .u8 frm, .int .u8 lto, .int .u64 0, .int .u64 0, .int .u64 0, .int .u64 0, .bool false, .slice none 0 0, .slice none 0 0, .int .u8 cid, .int .u64 cnum, steps, .int .i64 0, .int .i64 0, .int .i64 0, .slice none 0 0]
section
variable (kind : Int) (frm : Int) (lto : Int) (cid : Int) (cnum : Int) (steps : Value)
theorem lett_sz : (lett kind frm lto cid cnum steps).size = 17 := rfl
theorem lett_g0 : (lett kind frm lto cid cnum steps)[0]? = some (.int .u8 kind) := rfl
theorem lett_s0 (v : Int) : (lett kind frm lto cid cnum steps).setIfInBounds 0 (.int .u8 v) = lett v frm lto cid cnum steps := rfl
theorem lett_g1 : (lett kind frm lto cid cnum steps)[1]? = some (.int .u8 frm) := rfl
theorem lett_s1 (v : Int) : (lett kind frm lto cid cnum steps).setIfInBounds 1 (.int .u8 v) = lett kind v lto cid cnum steps := rfl
theorem lett_g2 : (lett kind frm lto cid cnum steps)[2]? = some (.int .u8 lto) := rfl
theorem lett_s2 (v : Int) : (lett kind frm lto cid cnum steps).setIfInBounds 2 (.int .u8 v) = lett kind frm v cid cnum steps := rfl
theorem lett_g3 : (lett kind frm lto cid cnum steps)[3]? = some (.int .u64 0) := rfl
theorem lett_g4 : (lett kind frm lto cid cnum steps)[4]? = some (.int .u64 0) := rfl
theorem lett_g5 : (lett kind frm lto cid cnum steps)[5]? = some (.int .u64 0) := rfl
theorem lett_g6 : (lett kind frm lto cid cnum steps)[6]? = some (.int .u64 0) := rfl
theorem lett_g7 : (lett kind frm lto cid cnum steps)[7]? = some (.bool false) := rfl
theorem lett_g8 : (lett kind frm lto cid cnum steps)[8]? = some (.slice none 0 0) := rfl
theorem lett_g9 : (lett kind frm lto cid cnum steps)[9]? = some (.slice none 0 0) := rfl
theorem lett_g10 : (lett kind frm lto cid cnum steps)[10]? = some (.int .u8 cid) := rfl
theorem lett_s10 (v : Int) : (lett kind frm lto cid cnum steps).setIfInBounds 10 (.int .u8 v) = lett kind frm lto v cnum steps := rfl
theorem lett_g11 : (lett kind frm lto cid cnum steps)[11]? = some (.int .u64 cnum) := rfl
theorem lett_s11 (v : Int) : (lett kind frm lto cid cnum steps).setIfInBounds 11 (.int .u64 v) = lett kind frm lto cid v steps := rfl
theorem lett_g12 : (lett kind frm lto cid cnum steps)[12]? = some (steps) := rfl
theorem lett_s12 (v : Value) : (lett kind frm lto cid cnum steps).setIfInBounds 12 (v) = lett kind frm lto cid cnum v := rfl
theorem lett_g13 : (lett kind frm lto cid cnum steps)[13]? = some (.int .i64 0) := rfl
theorem lett_g14 : (lett kind frm lto cid cnum steps)[14]? = some (.int .i64 0) := rfl
theorem lett_g15 : (lett kind frm lto cid cnum steps)[15]? = some (.int .i64 0) := rfl
theorem lett_g16 : (lett kind frm lto cid cnum steps)[16]? = some (.slice none 0 0) := rfl
end
theorem cli_lett (id n to num waits kind frm lto cid cnum : Int) (steps : Value) (is : Bool) : (cli id n to num waits kind frm lto cid cnum steps is).extract 5 (5 + 17) = lett kind frm lto cid cnum steps := by simp [cli, lett]
theorem lett_all (kind frm lto cid cnum : Int) (steps : Value) : (lett kind frm lto cid cnum steps).extract 0 (0 + 17) = lett kind frm lto cid cnum steps := by simp [lett]
theorem lett_splice (k1 f1 t1 c1 n1 kind frm lto cid cnum : Int) (s1 steps : Value) : splice (lett k1 f1 t1 c1 n1 s1) 0 (lett kind frm lto cid cnum steps) = lett kind frm lto cid cnum steps := splice_all rfl
theorem lett_cells (kind frm lto cid cnum : Int) (a : Option Addr) (n c : Nat) : Cells 17 (lett kind frm lto cid cnum (.slice a n c)) := by
  refine ⟨rfl, ?_⟩
  simp [lett, Value.oneCell']
theorem row_lett : RowTy 36 17 (lett 0 0 0 0 0 (.slice none 0 0)) := ⟨⟨_, Try.underlying36, rfl⟩, by kernel_rfl, by kernel_rfl⟩
theorem bs_lett : Try.prog.underlying 48 = some (.slice 36) ∧ (Try.prog.info? 36).map (fun i => (i.size, i.zero.map Value.cells)) = some ((lett 0 0 0 0 0 (.slice none 0 0)).size, some (lett 0 0 0 0 0 (.slice none 0 0))) ∧ 0 < (lett 0 0 0 0 0 (.slice none 0 0)).size ∧ (lett 0 0 0 0 0 (.slice none 0 0)).size ≤ 65536 := ⟨Try.underlying48, by kernel_rfl, by decide, by decide⟩
attribute [local go_sem high] lett_sz

/-- A client's thing. -/
def Cli (p : Nat) (id n to num waits kind frm lto cid cnum : Int) (steps : Value) (is : Bool) : Thing := Cel p (cli id n to num waits kind frm lto cid cnum steps is) 45

section
variable {W w : World} {l : List Thing} {p : Nat} {id n to num waits kind frm lto cid cnum : Int} {steps : Value} {is : Bool}
set_option maxRecDepth 100000
theorem there_none (w : World) : Calls Try.prog 26 #[.pointer none] w fun e w' => e = .returned (.bool false) ∧ w' = w := by
  go_enter Try.func26, Try.ntmps26
  go_wp2_with fail
  go_ret
  exact ⟨rfl, rfl⟩
theorem there_H (m : Cel p (cli id n to num waits kind frm lto cid cnum steps is) 45 ∈ l) (b : Bool) (hn : decide (0 < n) = b) : AnsH W l 26 #[.pointer (some ⟨p, 0, none⟩)] (.bool b) := by
  intro w H
  subst hn
  go_enter Try.func26, Try.ntmps26
  go_wp2_with (first | ((with_reducible show wpList _ _ _ (_ :: _) _ _); (with_reducible apply wpl_loadCH); (· exact cell_i64); (· rfl); (· rfl); (· exact H); (· exact m); (· (with_reducible first | exact cli_g0 .. | exact cli_g1 .. | exact cli_g2 .. | exact cli_g3 .. | exact cli_g4 .. | exact cli_g5 .. | exact cli_g6 .. | exact cli_g7 .. | exact cli_g8 .. | exact cli_g9 .. | exact cli_g10 .. | exact cli_g11 .. | exact cli_g12 .. | exact cli_g13 .. | exact cli_g14 .. | exact cli_g15 .. | exact cli_g16 .. | exact cli_g17 .. | exact cli_g18 .. | exact cli_g19 .. | exact cli_g20 .. | exact cli_g21 .. | exact cli_g22 ..)); (simp only [Act.put, List.setIfInBounds_toArray, List.set_cons_zero, List.set_cons_succ])))
  go_ret
  exact ⟨rfl, H⟩
theorem open_H (m : Cel p (cli id n to num waits kind frm lto cid cnum steps is) 45 ∈ l) (hn : decide (0 < n) = true) : AnsH W l 11 #[.pointer (some ⟨p, 0, none⟩)] (.bool is) := by
  intro w H
  have h1 := there_H (W := W) m _ hn
  clear hn
  go_enter Try.func11, Try.ntmps11
  go_wp2_with (first | ((with_reducible refine AnsH.call (by assumption) H ?_); clear H; intro _ H) | ((with_reducible show wpList _ _ _ (_ :: _) _ _); (with_reducible apply wpl_loadCH); (· exact cell_bool); (· rfl); (· rfl); (· exact H); (· exact m); (· (with_reducible first | exact cli_g0 .. | exact cli_g1 .. | exact cli_g2 .. | exact cli_g3 .. | exact cli_g4 .. | exact cli_g5 .. | exact cli_g6 .. | exact cli_g7 .. | exact cli_g8 .. | exact cli_g9 .. | exact cli_g10 .. | exact cli_g11 .. | exact cli_g12 .. | exact cli_g13 .. | exact cli_g14 .. | exact cli_g15 .. | exact cli_g16 .. | exact cli_g17 .. | exact cli_g18 .. | exact cli_g19 .. | exact cli_g20 .. | exact cli_g21 .. | exact cli_g22 ..)); (simp only [Act.put, List.setIfInBounds_toArray, List.set_cons_zero, List.set_cons_succ])))
  go_ret
  exact ⟨rfl, H⟩
theorem num_H (m : Cel p (cli id n to num waits kind frm lto cid cnum steps is) 45 ∈ l) (hn : decide (0 < n) = true) : AnsH W l 12 #[.pointer (some ⟨p, 0, none⟩)] (.int .u64 num) := by
  intro w H
  have h1 := there_H (W := W) m _ hn
  clear hn
  go_enter Try.func12, Try.ntmps12
  go_wp2_with (first | ((with_reducible refine AnsH.call (by assumption) H ?_); clear H; intro _ H) | ((with_reducible show wpList _ _ _ (_ :: _) _ _); (with_reducible apply wpl_loadCH); (· exact cell_u64); (· rfl); (· rfl); (· exact H); (· exact m); (· (with_reducible first | exact cli_g0 .. | exact cli_g1 .. | exact cli_g2 .. | exact cli_g3 .. | exact cli_g4 .. | exact cli_g5 .. | exact cli_g6 .. | exact cli_g7 .. | exact cli_g8 .. | exact cli_g9 .. | exact cli_g10 .. | exact cli_g11 .. | exact cli_g12 .. | exact cli_g13 .. | exact cli_g14 .. | exact cli_g15 .. | exact cli_g16 .. | exact cli_g17 .. | exact cli_g18 .. | exact cli_g19 .. | exact cli_g20 .. | exact cli_g21 .. | exact cli_g22 ..)); (simp only [Act.put, List.setIfInBounds_toArray, List.set_cons_zero, List.set_cons_succ])))
  go_ret
  exact ⟨rfl, H⟩
variable {R : Ending → World → Prop}
theorem there_call {b : Bool} (H : Heap W l w) (m : Cel p (cli id n to num waits kind frm lto cid cnum steps is) 45 ∈ l) (hn : decide (0 < n) = b) (k : ∀ w', Heap W l w' → R (.returned (.bool b)) w') :
    Calls Try.prog 26 #[.pointer (some ⟨p, 0, none⟩)] w R := (there_H m b hn).call H k
theorem open_call (H : Heap W l w) (m : Cel p (cli id n to num waits kind frm lto cid cnum steps is) 45 ∈ l) (hn : decide (0 < n) = true) (k : ∀ w', Heap W l w' → R (.returned (.bool is)) w') :
    Calls Try.prog 11 #[.pointer (some ⟨p, 0, none⟩)] w R := (open_H m hn).call H k
theorem num_call (H : Heap W l w) (m : Cel p (cli id n to num waits kind frm lto cid cnum steps is) 45 ∈ l) (hn : decide (0 < n) = true) (k : ∀ w', Heap W l w' → R (.returned (.int .u64 num)) w') :
    Calls Try.prog 12 #[.pointer (some ⟨p, 0, none⟩)] w R := (num_H m hn).call H k
end
end Go.Proofs.Ytjipelhcgglhhaa
