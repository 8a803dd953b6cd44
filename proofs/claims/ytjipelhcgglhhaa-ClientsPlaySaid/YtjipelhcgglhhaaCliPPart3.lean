/- Part 3 of what ProofClientsPlay stands on: Cli, CliCalls, TwinS. -/
import Derived.Test.YtjipelhcgglhhaaCliPPart2
import Derived.Test.YtjipelhcgglhhaaRows
import Derived.Lib.AppendZeros
import Derived.Laws.MakeOwn
import Derived.Laws.OwnMore
import Derived.Lib.BufferMore
/- clients.Client in memory: its block, its letters' rows, and what its readers answer. -/
namespace Go.Proofs.Ytjipelhcgglhhaa
open Go.RowKit
set_option linter.unusedSimpArgs false
set_option linter.unusedVariables false

theorem cell_i64 : CellTy 3 := ⟨⟨_, Try.underlying3, rfl⟩, by kernel_rfl⟩
theorem cell_u64 : CellTy 26 := ⟨⟨_, Try.underlying26, rfl⟩, by kernel_rfl⟩
theorem cell_b8 : CellTy 5 := ⟨⟨_, Try.underlying5, rfl⟩, by kernel_rfl⟩
theorem cell_bool : CellTy 4 := ⟨⟨_, Try.underlying4, rfl⟩, by kernel_rfl⟩
theorem cell_steps : CellTy 22 := ⟨⟨_, Try.underlying22, rfl⟩, by kernel_rfl⟩

def cli (id : Int) (n : Int) (to : Int) (num : Int) (waits : Int) (kind : Int) (frm : Int) (lto : Int) (cid : Int) (cnum : Int) (steps : Value) (is : Bool) : Array Value := #[.int .u8 id, .int .i64 n, .int .i64 to, .int .u64 num, .int .i64 waits, .int .u8 kind, .int .u8 frm, .int .u8 lto, .int .u64 0, .int .u64 0, .int .u64 0, .int .u64 0, .bool false, .slice none 0 0, .slice none 0 0, .int .u8 cid, .int .u64 cnum, steps, .int .i64 0, .int .i64 0, .int .i64 0, .slice none 0 0, .bool is]
section
variable (id : Int) (n : Int) (to : Int) (num : Int) (waits : Int) (kind : Int) (frm : Int) (lto : Int) (cid : Int) (cnum : Int) (steps : Value) (is : Bool)
theorem cli_sz : (cli id n to num waits kind frm lto cid cnum steps is).size = 23 := rfl
theorem cli_g0 : (cli id n to num waits kind frm lto cid cnum steps is)[0]? = some (.int .u8 id) := rfl
theorem cli_s0 (v : Int) : (cli id n to num waits kind frm lto cid cnum steps is).setIfInBounds 0 (.int .u8 v) = cli v n to num waits kind frm lto cid cnum steps is := rfl
theorem cli_g1 : (cli id n to num waits kind frm lto cid cnum steps is)[1]? = some (.int .i64 n) := rfl
theorem cli_s1 (v : Int) : (cli id n to num waits kind frm lto cid cnum steps is).setIfInBounds 1 (.int .i64 v) = cli id v to num waits kind frm lto cid cnum steps is := rfl
theorem cli_g2 : (cli id n to num waits kind frm lto cid cnum steps is)[2]? = some (.int .i64 to) := rfl
theorem cli_s2 (v : Int) : (cli id n to num waits kind frm lto cid cnum steps is).setIfInBounds 2 (.int .i64 v) = cli id n v num waits kind frm lto cid cnum steps is := rfl
theorem cli_g3 : (cli id n to num waits kind frm lto cid cnum steps is)[3]? = some (.int .u64 num) := rfl
theorem cli_s3 (v : Int) : (cli id n to num waits kind frm lto cid cnum steps is).setIfInBounds 3 (.int .u64 v) = cli id n to v waits kind frm lto cid cnum steps is := rfl
theorem cli_g4 : (cli id n to num waits kind frm lto cid cnum steps is)[4]? = some (.int .i64 waits) := rfl
theorem cli_s4 (v : Int) : (cli id n to num waits kind frm lto cid cnum steps is).setIfInBounds 4 (.int .i64 v) = cli id n to num v kind frm lto cid cnum steps is := rfl
theorem cli_g5 : (cli id n to num waits kind frm lto cid cnum steps is)[5]? = some (.int .u8 kind) := rfl
theorem cli_s5 (v : Int) : (cli id n to num waits kind frm lto cid cnum steps is).setIfInBounds 5 (.int .u8 v) = cli id n to num waits v frm lto cid cnum steps is := rfl
theorem cli_g6 : (cli id n to num waits kind frm lto cid cnum steps is)[6]? = some (.int .u8 frm) := rfl
theorem cli_s6 (v : Int) : (cli id n to num waits kind frm lto cid cnum steps is).setIfInBounds 6 (.int .u8 v) = cli id n to num waits kind v lto cid cnum steps is := rfl
theorem cli_g7 : (cli id n to num waits kind frm lto cid cnum steps is)[7]? = some (.int .u8 lto) := rfl
theorem cli_s7 (v : Int) : (cli id n to num waits kind frm lto cid cnum steps is).setIfInBounds 7 (.int .u8 v) = cli id n to num waits kind frm v cid cnum steps is := rfl
theorem cli_g8 : (cli id n to num waits kind frm lto cid cnum steps is)[8]? = some (.int .u64 0) := rfl
theorem cli_g9 : (cli id n to num waits kind frm lto cid cnum steps is)[9]? = some (.int .u64 0) := rfl
theorem cli_g10 : (cli id n to num waits kind frm lto cid cnum steps is)[10]? = some (.int .u64 0) := rfl
theorem cli_g11 : (cli id n to num waits kind frm lto cid cnum steps is)[11]? = some (.int .u64 0) := rfl
theorem cli_g12 : (cli id n to num waits kind frm lto cid cnum steps is)[12]? = some (.bool false) := rfl
theorem cli_g13 : (cli id n to num waits kind frm lto cid cnum steps is)[13]? = some (.slice none 0 0) := rfl
theorem cli_g14 : (cli id n to num waits kind frm lto cid cnum steps is)[14]? = some (.slice none 0 0) := rfl
theorem cli_g15 : (cli id n to num waits kind frm lto cid cnum steps is)[15]? = some (.int .u8 cid) := rfl
theorem cli_s15 (v : Int) : (cli id n to num waits kind frm lto cid cnum steps is).setIfInBounds 15 (.int .u8 v) = cli id n to num waits kind frm lto v cnum steps is := rfl
theorem cli_g16 : (cli id n to num waits kind frm lto cid cnum steps is)[16]? = some (.int .u64 cnum) := rfl
theorem cli_s16 (v : Int) : (cli id n to num waits kind frm lto cid cnum steps is).setIfInBounds 16 (.int .u64 v) = cli id n to num waits kind frm lto cid v steps is := rfl
theorem cli_g17 : (cli id n to num waits kind frm lto cid cnum steps is)[17]? = some (steps) := rfl
theorem cli_s17 (v : Value) : (cli id n to num waits kind frm lto cid cnum steps is).setIfInBounds 17 (v) = cli id n to num waits kind frm lto cid cnum v is := rfl
theorem cli_g18 : (cli id n to num waits kind frm lto cid cnum steps is)[18]? = some (.int .i64 0) := rfl
theorem cli_g19 : (cli id n to num waits kind frm lto cid cnum steps is)[19]? = some (.int .i64 0) := rfl
theorem cli_g20 : (cli id n to num waits kind frm lto cid cnum steps is)[20]? = some (.int .i64 0) := rfl
theorem cli_g21 : (cli id n to num waits kind frm lto cid cnum steps is)[21]? = some (.slice none 0 0) := rfl
theorem cli_g22 : (cli id n to num waits kind frm lto cid cnum steps is)[22]? = some (.bool is) := rfl
theorem cli_s22 (v : Bool) : (cli id n to num waits kind frm lto cid cnum steps is).setIfInBounds 22 (.bool v) = cli id n to num waits kind frm lto cid cnum steps v := rfl
end
def lett (kind : Int) (frm : Int) (lto : Int) (cid : Int) (cnum : Int) (steps : Value) : Array Value := #[.int .u8 kind, .int .u8 frm, .int .u8 lto, .int .u64 0, .int .u64 0, .int .u64 0, .int .u64 0, .bool false, .slice none 0 0, .slice none 0 0, .int .u8 cid, .int .u64 cnum, steps, .int .i64 0, .int .i64 0, .int .i64 0, .slice none 0 0]
section
variable (kind : Int) (frm : Int) (lto : Int) (cid : Int) (cnum : Int) (steps : Value)
theorem lett_sz : (lett kind frm lto cid cnum steps).size = 17 := rfl
theorem lett_g0 : (lett kind frm lto cid cnum steps)[0]? = some (.int .u8 kind) := rfl
theorem lett_s0 (v : Int) : (lett kind frm lto cid cnum steps).setIfInBounds 0 (.int .u8 v) = lett v frm lto cid cnum steps := rfl
theorem lett_g1 : (lett kind frm lto cid cnum steps)[1]? = some (.int .u8 frm) := rfl
theorem lett_s1 (v : Int) : (lett kind frm lto cid cnum steps).setIfInBounds 1 (.int .u8 v) = lett kind v lto cid cnum steps := rfl
theorem lett_g2 : (lett kind frm lto cid cnum steps)[2]? = some (.int .u8 lto) := rfl
theorem lett_s2 (v : Int) : (lett kind frm lto cid cnum steps).setIfInBounds 2 (.int .u8 v) = lett kind frm v cid cnum steps := rfl
theorem lett_g3 : (lett kind frm lto cid cnum steps)[3]? = some (.int .u64 0) := rfl
theorem lett_g4 : (lett kind frm lto cid cnum steps)[4]? = some (.int .u64 0) := rfl
theorem lett_g5 : (lett kind frm lto cid cnum steps)[5]? = some (.int .u64 0) := rfl
theorem lett_g6 : (lett kind frm lto cid cnum steps)[6]? = some (.int .u64 0) := rfl
theorem lett_g7 : (lett kind frm lto cid cnum steps)[7]? = some (.bool false) := rfl
theorem lett_g8 : (lett kind frm lto cid cnum steps)[8]? = some (.slice none 0 0) := rfl
theorem lett_g9 : (lett kind frm lto cid cnum steps)[9]? = some (.slice none 0 0) := rfl
theorem lett_g10 : (lett kind frm lto cid cnum steps)[10]? = some (.int .u8 cid) := rfl
theorem lett_s10 (v : Int) : (lett kind frm lto cid cnum steps).setIfInBounds 10 (.int .u8 v) = lett kind frm lto v cnum steps := rfl
theorem lett_g11 : (lett kind frm lto cid cnum steps)[11]? = some (.int .u64 cnum) := rfl
theorem lett_s11 (v : Int) : (lett kind frm lto cid cnum steps).setIfInBounds 11 (.int .u64 v) = lett kind frm lto cid v steps := rfl
theorem lett_g12 : (lett kind frm lto cid cnum steps)[12]? = some (steps) := rfl
theorem lett_s12 (v : Value) : (lett kind frm lto cid cnum steps).setIfInBounds 12 (v) = lett kind frm lto cid cnum v := rfl
theorem lett_g13 : (lett kind frm lto cid cnum steps)[13]? = some (.int .i64 0) := rfl
theorem lett_g14 : (lett kind frm lto cid cnum steps)[14]? = some (.int .i64 0) := rfl
theorem lett_g15 : (lett kind frm lto cid cnum steps)[15]? = some (.int .i64 0) := rfl
theorem lett_g16 : (lett kind frm lto cid cnum steps)[16]? = some (.slice none 0 0) := rfl
end
theorem cli_lett (id n to num waits kind frm lto cid cnum : Int) (steps : Value) (is : Bool) : (cli id n to num waits kind frm lto cid cnum steps is).extract 5 (5 + 17) = lett kind frm lto cid cnum steps := by simp [cli, lett]
theorem lett_all (kind frm lto cid cnum : Int) (steps : Value) : (lett kind frm lto cid cnum steps).extract 0 (0 + 17) = lett kind frm lto cid cnum steps := by simp [lett]
theorem lett_splice (k1 f1 t1 c1 n1 kind frm lto cid cnum : Int) (s1 steps : Value) : splice (lett k1 f1 t1 c1 n1 s1) 0 (lett kind frm lto cid cnum steps) = lett kind frm lto cid cnum steps := splice_all rfl
theorem lett_cells (kind frm lto cid cnum : Int) (a : Option Addr) (n c : Nat) : Cells 17 (lett kind frm lto cid cnum (.slice a n c)) := by
  refine ⟨rfl, ?_⟩
  simp [lett, Value.oneCell']
theorem row_lett : RowTy 36 17 (lett 0 0 0 0 0 (.slice none 0 0)) := ⟨⟨_, Try.underlying36, rfl⟩, by kernel_rfl, by kernel_rfl⟩
theorem bs_lett : Try.prog.underlying 48 = some (.slice 36) ∧ (Try.prog.info? 36).map (fun i => (i.size, i.zero.map Value.cells)) = some ((lett 0 0 0 0 0 (.slice none 0 0)).size, some (lett 0 0 0 0 0 (.slice none 0 0))) ∧ 0 < (lett 0 0 0 0 0 (.slice none 0 0)).size ∧ (lett 0 0 0 0 0 (.slice none 0 0)).size ≤ 65536 := ⟨Try.underlying48, by kernel_rfl, by decide, by decide⟩
attribute [local go_sem high] lett_sz

/-- A client's thing. -/
def Cli (p : Nat) (id n to num waits kind frm lto cid cnum : Int) (steps : Value) (is : Bool) : Thing := Cel p (cli id n to num waits kind frm lto cid cnum steps is) 45

section
variable {W w : World} {l : List Thing} {p : Nat} {id n to num waits kind frm lto cid cnum : Int} {steps : Value} {is : Bool}
set_option maxRecDepth 100000
theorem there_H (m : Cel p (cli id n to num waits kind frm lto cid cnum steps is) 45 ∈ l) (b : Bool) (hn : decide (0 < n) = b) : AnsH W l 26 #[.pointer (some ⟨p, 0, none⟩)] (.bool b) := by
  intro w H
  subst hn
  go_enter Try.func26, Try.ntmps26
  go_wp2_with (first | ((with_reducible show wpList _ _ _ (_ :: _) _ _); (with_reducible apply wpl_loadCH); (· exact cell_i64); (· rfl); (· rfl); (· exact H); (· exact m); (· (with_reducible first | exact cli_g0 .. | exact cli_g1 .. | exact cli_g2 .. | exact cli_g3 .. | exact cli_g4 .. | exact cli_g5 .. | exact cli_g6 .. | exact cli_g7 .. | exact cli_g8 .. | exact cli_g9 .. | exact cli_g10 .. | exact cli_g11 .. | exact cli_g12 .. | exact cli_g13 .. | exact cli_g14 .. | exact cli_g15 .. | exact cli_g16 .. | exact cli_g17 .. | exact cli_g18 .. | exact cli_g19 .. | exact cli_g20 .. | exact cli_g21 .. | exact cli_g22 ..)); (simp only [Act.put, List.setIfInBounds_toArray, List.set_cons_zero, List.set_cons_succ])))
  go_ret
  exact ⟨rfl, H⟩
theorem open_H (m : Cel p (cli id n to num waits kind frm lto cid cnum steps is) 45 ∈ l) (hn : decide (0 < n) = true) : AnsH W l 11 #[.pointer (some ⟨p, 0, none⟩)] (.bool is) := by
  intro w H
  have h1 := there_H (W := W) m _ hn
  clear hn
  go_enter Try.func11, Try.ntmps11
  go_wp2_with (first | ((with_reducible refine AnsH.call (by assumption) H ?_); clear H; intro _ H) | ((with_reducible show wpList _ _ _ (_ :: _) _ _); (with_reducible apply wpl_loadCH); (· exact cell_bool); (· rfl); (· rfl); (· exact H); (· exact m); (· (with_reducible first | exact cli_g0 .. | exact cli_g1 .. | exact cli_g2 .. | exact cli_g3 .. | exact cli_g4 .. | exact cli_g5 .. | exact cli_g6 .. | exact cli_g7 .. | exact cli_g8 .. | exact cli_g9 .. | exact cli_g10 .. | exact cli_g11 .. | exact cli_g12 .. | exact cli_g13 .. | exact cli_g14 .. | exact cli_g15 .. | exact cli_g16 .. | exact cli_g17 .. | exact cli_g18 .. | exact cli_g19 .. | exact cli_g20 .. | exact cli_g21 .. | exact cli_g22 ..)); (simp only [Act.put, List.setIfInBounds_toArray, List.set_cons_zero, List.set_cons_succ])))
  go_ret
  exact ⟨rfl, H⟩
theorem num_H (m : Cel p (cli id n to num waits kind frm lto cid cnum steps is) 45 ∈ l) (hn : decide (0 < n) = true) : AnsH W l 12 #[.pointer (some ⟨p, 0, none⟩)] (.int .u64 num) := by
  intro w H
  have h1 := there_H (W := W) m _ hn
  clear hn
  go_enter Try.func12, Try.ntmps12
  go_wp2_with (first | ((with_reducible refine AnsH.call (by assumption) H ?_); clear H; intro _ H) | ((with_reducible show wpList _ _ _ (_ :: _) _ _); (with_reducible apply wpl_loadCH); (· exact cell_u64); (· rfl); (· rfl); (· exact H); (· exact m); (· (with_reducible first | exact cli_g0 .. | exact cli_g1 .. | exact cli_g2 .. | exact cli_g3 .. | exact cli_g4 .. | exact cli_g5 .. | exact cli_g6 .. | exact cli_g7 .. | exact cli_g8 .. | exact cli_g9 .. | exact cli_g10 .. | exact cli_g11 .. | exact cli_g12 .. | exact cli_g13 .. | exact cli_g14 .. | exact cli_g15 .. | exact cli_g16 .. | exact cli_g17 .. | exact cli_g18 .. | exact cli_g19 .. | exact cli_g20 .. | exact cli_g21 .. | exact cli_g22 ..)); (simp only [Act.put, List.setIfInBounds_toArray, List.set_cons_zero, List.set_cons_succ])))
  go_ret
  exact ⟨rfl, H⟩
variable {R : Ending → World → Prop}
theorem there_call {b : Bool} (H : Heap W l w) (m : Cel p (cli id n to num waits kind frm lto cid cnum steps is) 45 ∈ l) (hn : decide (0 < n) = b) (k : ∀ w', Heap W l w' → R (.returned (.bool b)) w') :
    Calls Try.prog 26 #[.pointer (some ⟨p, 0, none⟩)] w R := (there_H m b hn).call H k
theorem open_call (H : Heap W l w) (m : Cel p (cli id n to num waits kind frm lto cid cnum steps is) 45 ∈ l) (hn : decide (0 < n) = true) (k : ∀ w', Heap W l w' → R (.returned (.bool is)) w') :
    Calls Try.prog 11 #[.pointer (some ⟨p, 0, none⟩)] w R := (open_H m hn).call H k
end
end Go.Proofs.Ytjipelhcgglhhaa

/- clients.Client: calls, Call, Tick. -/
namespace Go.Proofs.Ytjipelhcgglhhaa
open Go.RowKit
set_option linter.unusedSimpArgs false
set_option linter.unusedVariables false

theorem slS : SlTy Try.prog 22 87 10 48 (.agg #[.int .u8 0, .int .u8 0, .int .u8 0, .int .u8 0, .int .u8 0, .int .i64 0, .int .i64 0, .int .i64 0, .int .i64 0, .int .u64 0]) := slTy_mk Try.underlying22 (by kernel_rfl) rfl (by decide)
/-- A row of steps in memory of its own. -/
abbrev StepsT (g n c : Nat) (cs : List Value) : Thing := Sl g 87 10 n c cs
section
variable {W w : World} {l : List Thing}
set_option maxRecDepth 100000
theorem cloneS (b off n c : Nat) (cs : List Value) (H : Heap W l w) (h0 : 0 < n) (hn : n ≤ 100) (hl : cs.length = n * 10) (hx : Rd w (some ⟨b, off, none⟩) cs) (h1 : OneCells cs) :
    Calls Try.prog 27 #[.slice (some ⟨b, off, none⟩) n c] w fun e w' => ∃ g c', e = .returned (.slice (some ⟨g, 0, none⟩) n c') ∧ n ≤ c' ∧ c' ≤ maxLen ∧ Heap W (StepsT g n c' cs :: l) w' := by
  have HX := Lib.hid hx
  have H1 := Lib.hid h1
  have HL := Lib.hid hl
  have HH := Lib.hid H
  clear hx h1 hl H
  have e1 : ∀ wx, (binOp .eql 22 (.slice (some ⟨b, off, none⟩) n c) (.slice none 0 0)).run Try.prog wx = .ok (.bool false) wx := fun wx => Lib.run_eql_slice_some_nil wx _ n c Try.underlying22
  go_enter Try.func27, Try.ntmps27
  go_wp2_with (at_builtin; refine wpl_append rfl (.tmp 5) (.tmp 6) _ rfl slS w.heap.size (.slice (some ⟨w.heap.size, 0, none⟩) 0 0) 0 [] rfl (World.ownsRow_lit w #[] 0 (Nat.le_refl _) (Nat.zero_le _) rfl) (some ⟨b, off, none⟩) n c cs rfl HL.out (HX.out.below ((Ext.refl w).alloc _)) H1.out (by unfold maxLen; omega) (by omega) (by simp) ?_; intro v2 w2 hown2 hg2 _)
  go_ret
  have hb2 := (((Below.refl w.heap.size w).alloc (Nat.le_refl _) (.cells #[] 87)).grown hg2 (by simp) (by rintro k ⟨rfl⟩; exact Nat.le_refl _))
  rw [Nat.zero_add, List.nil_append] at hown2
  have HR := HH.out.addRow hb2 hown2
  obtain ⟨g, c', rfl, hc, hm⟩ := RowT.sl (HR.ok _ List.mem_cons_self) h0
  exact ⟨g, c', rfl, hc, hm, HR⟩
theorem clipS (a : Addr) (n c : Nat) (w : World) (hn : n ≤ c) (hc : c ≤ maxLen) : Ans 37 #[.slice (some a) n c] (.slice (some a) n n) := by
  intro w
  unfold maxLen at hc
  have ha : a.add 0 = a := by simp [Addr.add]
  go_enter Try.func37, Try.ntmps37
  go_wp2
  go_ret
  exact ⟨rfl, (by repeat (first | exact Ext.refl _ | refine Ext.alloc ?_ _ | refine Ext.ext ?_ _ | refine Ext.drew ?_))⟩


theorem cli_open (id n to num waits kind frm lto cid cnum : Int) (steps : Value) (is : Bool) (k f c m : Int) (s : Value) (b : Bool) :
    splice (cli id n to num waits kind frm lto cid cnum steps is) 5 #[.int .u8 k, .int .u8 f, .int .u8 0, .int .u64 0, .int .u64 0, .int .u64 0, .int .u64 0, .bool false, .slice none 0 0, .slice none 0 0, .int .u8 c, .int .u64 m, s, .int .i64 0, .int .i64 0, .int .i64 0, .slice none 0 0, .bool b] = cli id n to num waits k f 0 c m s b := by
  simp [splice, cli]
theorem lett_bs (kind frm lto cid cnum : Int) (s : Value) : (lett kind frm lto cid cnum s).size = (lett 0 0 0 0 0 (.slice none 0 0)).size := rfl
set_option maxHeartbeats 1000000
attribute [local go_sem high] lett_sz
theorem calls_H (p g m c : Nat) (id n to num waits kind frm lto cid cnum : Int) (cs : List Value) (H : Heap W (Cli p id n to num waits kind frm lto cid cnum (.slice (some ⟨g, 0, none⟩) m c) true :: StepsT g m c cs :: l) w) (h0 : 0 < m) (hm : m ≤ 100) (hl : cs.length = m * 10) (h1 : OneCells cs) (ht : 0 ≤ to ∧ to ≤ 255) :
    Calls Try.prog 28 #[.pointer (some ⟨p, 0, none⟩)] w fun e w' => ∃ q g' c', e = .returned (.slice (some ⟨q, 0, none⟩) 1 1) ∧
      Heap W (Cel q (lett kind frm to cid cnum (.slice (some ⟨g', 0, none⟩) m m)) 36 :: StepsT g' m c' cs :: Cli p id n to num 0 kind frm to cid cnum (.slice (some ⟨g, 0, none⟩) m c) true :: StepsT g m c cs :: l) w' := by
  have hw : IntKind.u8.wrap to = to := IntWalk.u8_in _ (by omega)
  unfold Cli at *
  go_enter Try.func28, Try.ntmps28
  go_wp2_with (first
    | ((with_reducible show wpList _ _ _ (_ :: _) _ _); (with_reducible apply wpl_loadCH); (· exact cell_i64); (· rfl); (· rfl); (· exact H); (· (repeat (first | (with_reducible exact List.mem_cons_self) | with_reducible apply List.mem_cons_of_mem))); (· (with_reducible first | exact cli_g0 .. | exact cli_g1 .. | exact cli_g2 .. | exact cli_g3 .. | exact cli_g4 .. | exact cli_g5 .. | exact cli_g6 .. | exact cli_g7 .. | exact cli_g8 .. | exact cli_g9 .. | exact cli_g10 .. | exact cli_g11 .. | exact cli_g12 .. | exact cli_g13 .. | exact cli_g14 .. | exact cli_g15 .. | exact cli_g16 .. | exact cli_g17 .. | exact cli_g18 .. | exact cli_g19 .. | exact cli_g20 .. | exact cli_g21 .. | exact cli_g22 .. | exact lett_g0 .. | exact lett_g1 .. | exact lett_g2 .. | exact lett_g3 .. | exact lett_g4 .. | exact lett_g5 .. | exact lett_g6 .. | exact lett_g7 .. | exact lett_g8 .. | exact lett_g9 .. | exact lett_g10 .. | exact lett_g11 .. | exact lett_g12 .. | exact lett_g13 .. | exact lett_g14 .. | exact lett_g15 .. | exact lett_g16 ..)); (simp only [Act.put, List.setIfInBounds_toArray, List.set_cons_zero, List.set_cons_succ]))
    | (first | ((with_reducible show wpList _ _ _ (_ :: _) _ _); (with_reducible apply wpl_storeIH); (· exact cell_i64); (· rfl); (· rfl); (· rfl); (· exact H); (· (repeat (first | (with_reducible exact List.mem_cons_self) | with_reducible apply List.mem_cons_of_mem))); (· (simp only [cli_sz, lett_sz, Nat.reduceLT]; done)); (· (with_reducible first | exact cli_s0 .. | exact cli_s1 .. | exact cli_s2 .. | exact cli_s3 .. | exact cli_s4 .. | exact cli_s5 .. | exact cli_s6 .. | exact cli_s7 .. | exact cli_s15 .. | exact cli_s16 .. | exact cli_s17 .. | exact cli_s22 .. | exact lett_s0 .. | exact lett_s1 .. | exact lett_s2 .. | exact lett_s10 .. | exact lett_s11 .. | exact lett_s12 ..)); (· (repeat (first | (with_reducible exact Repl.here) | with_reducible apply Repl.there))); (clear H; intro _ H); (simp only [Act.put, List.setIfInBounds_toArray, List.set_cons_zero, List.set_cons_succ])) | ((with_reducible show wpList _ _ _ (_ :: _) _ _); (with_reducible apply wpl_storeBH); (· exact cell_i64); (· rfl); (· rfl); (· rfl); (· exact H); (· (repeat (first | (with_reducible exact List.mem_cons_self) | with_reducible apply List.mem_cons_of_mem))); (· (simp only [cli_sz, lett_sz, Nat.reduceLT]; done)); (· (with_reducible first | exact cli_s0 .. | exact cli_s1 .. | exact cli_s2 .. | exact cli_s3 .. | exact cli_s4 .. | exact cli_s5 .. | exact cli_s6 .. | exact cli_s7 .. | exact cli_s15 .. | exact cli_s16 .. | exact cli_s17 .. | exact cli_s22 .. | exact lett_s0 .. | exact lett_s1 .. | exact lett_s2 .. | exact lett_s10 .. | exact lett_s11 .. | exact lett_s12 ..)); (· (repeat (first | (with_reducible exact Repl.here) | with_reducible apply Repl.there))); (clear H; intro _ H); (simp only [Act.put, List.setIfInBounds_toArray, List.set_cons_zero, List.set_cons_succ])) | ((with_reducible show wpList _ _ _ (_ :: _) _ _); (with_reducible apply wpl_storeSH); (· exact cell_i64); (· rfl); (· rfl); (· rfl); (· exact H); (· (repeat (first | (with_reducible exact List.mem_cons_self) | with_reducible apply List.mem_cons_of_mem))); (· (simp only [cli_sz, lett_sz, Nat.reduceLT]; done)); (· (with_reducible first | exact cli_s0 .. | exact cli_s1 .. | exact cli_s2 .. | exact cli_s3 .. | exact cli_s4 .. | exact cli_s5 .. | exact cli_s6 .. | exact cli_s7 .. | exact cli_s15 .. | exact cli_s16 .. | exact cli_s17 .. | exact cli_s22 .. | exact lett_s0 .. | exact lett_s1 .. | exact lett_s2 .. | exact lett_s10 .. | exact lett_s11 .. | exact lett_s12 ..)); (· (repeat (first | (with_reducible exact Repl.here) | with_reducible apply Repl.there))); (clear H; intro _ H); (simp only [Act.put, List.setIfInBounds_toArray, List.set_cons_zero, List.set_cons_succ])) | ((with_reducible show wpList _ _ _ (_ :: _) _ _); (with_reducible apply wpl_storePH); (· exact cell_i64); (· rfl); (· rfl); (· rfl); (· exact H); (· (repeat (first | (with_reducible exact List.mem_cons_self) | with_reducible apply List.mem_cons_of_mem))); (· (simp only [cli_sz, lett_sz, Nat.reduceLT]; done)); (· (with_reducible first | exact cli_s0 .. | exact cli_s1 .. | exact cli_s2 .. | exact cli_s3 .. | exact cli_s4 .. | exact cli_s5 .. | exact cli_s6 .. | exact cli_s7 .. | exact cli_s15 .. | exact cli_s16 .. | exact cli_s17 .. | exact cli_s22 .. | exact lett_s0 .. | exact lett_s1 .. | exact lett_s2 .. | exact lett_s10 .. | exact lett_s11 .. | exact lett_s12 ..)); (· (repeat (first | (with_reducible exact Repl.here) | with_reducible apply Repl.there))); (clear H; intro _ H); (simp only [Act.put, List.setIfInBounds_toArray, List.set_cons_zero, List.set_cons_succ])))
    | (first | ((with_reducible show wpList _ _ _ (_ :: _) _ _); (with_reducible apply wpl_storeIH); (· exact cell_b8); (· rfl); (· rfl); (· rfl); (· exact H); (· (repeat (first | (with_reducible exact List.mem_cons_self) | with_reducible apply List.mem_cons_of_mem))); (· (simp only [cli_sz, lett_sz, Nat.reduceLT]; done)); (· (with_reducible first | exact cli_s0 .. | exact cli_s1 .. | exact cli_s2 .. | exact cli_s3 .. | exact cli_s4 .. | exact cli_s5 .. | exact cli_s6 .. | exact cli_s7 .. | exact cli_s15 .. | exact cli_s16 .. | exact cli_s17 .. | exact cli_s22 .. | exact lett_s0 .. | exact lett_s1 .. | exact lett_s2 .. | exact lett_s10 .. | exact lett_s11 .. | exact lett_s12 ..)); (· (repeat (first | (with_reducible exact Repl.here) | with_reducible apply Repl.there))); (clear H; intro _ H); (simp only [Act.put, List.setIfInBounds_toArray, List.set_cons_zero, List.set_cons_succ])) | ((with_reducible show wpList _ _ _ (_ :: _) _ _); (with_reducible apply wpl_storeBH); (· exact cell_b8); (· rfl); (· rfl); (· rfl); (· exact H); (· (repeat (first | (with_reducible exact List.mem_cons_self) | with_reducible apply List.mem_cons_of_mem))); (· (simp only [cli_sz, lett_sz, Nat.reduceLT]; done)); (· (with_reducible first | exact cli_s0 .. | exact cli_s1 .. | exact cli_s2 .. | exact cli_s3 .. | exact cli_s4 .. | exact cli_s5 .. | exact cli_s6 .. | exact cli_s7 .. | exact cli_s15 .. | exact cli_s16 .. | exact cli_s17 .. | exact cli_s22 .. | exact lett_s0 .. | exact lett_s1 .. | exact lett_s2 .. | exact lett_s10 .. | exact lett_s11 .. | exact lett_s12 ..)); (· (repeat (first | (with_reducible exact Repl.here) | with_reducible apply Repl.there))); (clear H; intro _ H); (simp only [Act.put, List.setIfInBounds_toArray, List.set_cons_zero, List.set_cons_succ])) | ((with_reducible show wpList _ _ _ (_ :: _) _ _); (with_reducible apply wpl_storeSH); (· exact cell_b8); (· rfl); (· rfl); (· rfl); (· exact H); (· (repeat (first | (with_reducible exact List.mem_cons_self) | with_reducible apply List.mem_cons_of_mem))); (· (simp only [cli_sz, lett_sz, Nat.reduceLT]; done)); (· (with_reducible first | exact cli_s0 .. | exact cli_s1 .. | exact cli_s2 .. | exact cli_s3 .. | exact cli_s4 .. | exact cli_s5 .. | exact cli_s6 .. | exact cli_s7 .. | exact cli_s15 .. | exact cli_s16 .. | exact cli_s17 .. | exact cli_s22 .. | exact lett_s0 .. | exact lett_s1 .. | exact lett_s2 .. | exact lett_s10 .. | exact lett_s11 .. | exact lett_s12 ..)); (· (repeat (first | (with_reducible exact Repl.here) | with_reducible apply Repl.there))); (clear H; intro _ H); (simp only [Act.put, List.setIfInBounds_toArray, List.set_cons_zero, List.set_cons_succ])) | ((with_reducible show wpList _ _ _ (_ :: _) _ _); (with_reducible apply wpl_storePH); (· exact cell_b8); (· rfl); (· rfl); (· rfl); (· exact H); (· (repeat (first | (with_reducible exact List.mem_cons_self) | with_reducible apply List.mem_cons_of_mem))); (· (simp only [cli_sz, lett_sz, Nat.reduceLT]; done)); (· (with_reducible first | exact cli_s0 .. | exact cli_s1 .. | exact cli_s2 .. | exact cli_s3 .. | exact cli_s4 .. | exact cli_s5 .. | exact cli_s6 .. | exact cli_s7 .. | exact cli_s15 .. | exact cli_s16 .. | exact cli_s17 .. | exact cli_s22 .. | exact lett_s0 .. | exact lett_s1 .. | exact lett_s2 .. | exact lett_s10 .. | exact lett_s11 .. | exact lett_s12 ..)); (· (repeat (first | (with_reducible exact Repl.here) | with_reducible apply Repl.there))); (clear H; intro _ H); (simp only [Act.put, List.setIfInBounds_toArray, List.set_cons_zero, List.set_cons_succ])))
    | ((with_reducible show wpList _ _ _ (_ :: _) _ _); (with_reducible apply wpl_loadRH row_lett); (· rfl); (· rfl); (· exact H); (· (repeat (first | (with_reducible exact List.mem_cons_self) | with_reducible apply List.mem_cons_of_mem))); (· (simp only [cli_sz, lett_sz, Nat.reduceAdd, Nat.reduceLeDiff, Nat.le_refl]; done)); (· with_reducible exact cli_lett ..); (simp only [Act.put, List.setIfInBounds_toArray, List.set_cons_zero, List.set_cons_succ]))
    | ((with_reducible show wpList _ _ _ (_ :: _) _ _); (with_reducible apply wpl_allocRH row_lett); (· rfl); (· exact H); (clear H; intro q0 _ H); (simp only [Act.put, List.setIfInBounds_toArray, List.set_cons_zero, List.set_cons_succ]))
    | ((with_reducible show wpList _ _ _ (_ :: _) _ _); (with_reducible apply wpl_storeRH row_lett); (· rfl); (· rfl); (· rfl); (· with_reducible exact lett_cells ..); (· exact H); (· (repeat (first | (with_reducible exact List.mem_cons_self) | with_reducible apply List.mem_cons_of_mem))); (· (simp only [lett_sz, Nat.reduceAdd, Nat.reduceLeDiff, Nat.le_refl]; done)); (· with_reducible exact lett_splice ..); (· (repeat (first | (with_reducible exact Repl.here) | with_reducible apply Repl.there))); (clear H; intro _ H); (simp only [Act.put, List.setIfInBounds_toArray, List.set_cons_zero, List.set_cons_succ]))
    | ((with_reducible show wpList _ _ _ (_ :: _) _ _); (with_reducible apply wpl_loadCH); (· exact cell_steps); (· rfl); (· rfl); (· exact H); (· (repeat (first | (with_reducible exact List.mem_cons_self) | with_reducible apply List.mem_cons_of_mem))); (· (with_reducible first | exact cli_g0 .. | exact cli_g1 .. | exact cli_g2 .. | exact cli_g3 .. | exact cli_g4 .. | exact cli_g5 .. | exact cli_g6 .. | exact cli_g7 .. | exact cli_g8 .. | exact cli_g9 .. | exact cli_g10 .. | exact cli_g11 .. | exact cli_g12 .. | exact cli_g13 .. | exact cli_g14 .. | exact cli_g15 .. | exact cli_g16 .. | exact cli_g17 .. | exact cli_g18 .. | exact cli_g19 .. | exact cli_g20 .. | exact cli_g21 .. | exact cli_g22 .. | exact lett_g0 .. | exact lett_g1 .. | exact lett_g2 .. | exact lett_g3 .. | exact lett_g4 .. | exact lett_g5 .. | exact lett_g6 .. | exact lett_g7 .. | exact lett_g8 .. | exact lett_g9 .. | exact lett_g10 .. | exact lett_g11 .. | exact lett_g12 .. | exact lett_g13 .. | exact lett_g14 .. | exact lett_g15 .. | exact lett_g16 ..)); (simp only [Act.put, List.setIfInBounds_toArray, List.set_cons_zero, List.set_cons_succ])))
  have C := cloneS g 0 m c cs H h0 hm hl (H.slRd (by (repeat (first | (with_reducible exact List.mem_cons_self) | with_reducible apply List.mem_cons_of_mem)))) h1
  clear H
  refine C.mono ?_
  rintro e w4 ⟨g4, c4, rfl, hc4, hm4, H⟩
  have hcl := clipS ⟨g4, 0, none⟩ m c4 w4 hc4 hm4
  go_wp2_with (first
    | ((with_reducible refine Ans.callH (by assumption) H ?_); clear H; intro _ H)
    | (first | ((with_reducible show wpList _ _ _ (_ :: _) _ _); (with_reducible apply wpl_storeIH); (· exact cell_steps); (· rfl); (· rfl); (· rfl); (· exact H); (· (repeat (first | (with_reducible exact List.mem_cons_self) | with_reducible apply List.mem_cons_of_mem))); (· (simp only [cli_sz, lett_sz, Nat.reduceLT]; done)); (· (with_reducible first | exact cli_s0 .. | exact cli_s1 .. | exact cli_s2 .. | exact cli_s3 .. | exact cli_s4 .. | exact cli_s5 .. | exact cli_s6 .. | exact cli_s7 .. | exact cli_s15 .. | exact cli_s16 .. | exact cli_s17 .. | exact cli_s22 .. | exact lett_s0 .. | exact lett_s1 .. | exact lett_s2 .. | exact lett_s10 .. | exact lett_s11 .. | exact lett_s12 ..)); (· (repeat (first | (with_reducible exact Repl.here) | with_reducible apply Repl.there))); (clear H; intro _ H); (simp only [Act.put, List.setIfInBounds_toArray, List.set_cons_zero, List.set_cons_succ])) | ((with_reducible show wpList _ _ _ (_ :: _) _ _); (with_reducible apply wpl_storeBH); (· exact cell_steps); (· rfl); (· rfl); (· rfl); (· exact H); (· (repeat (first | (with_reducible exact List.mem_cons_self) | with_reducible apply List.mem_cons_of_mem))); (· (simp only [cli_sz, lett_sz, Nat.reduceLT]; done)); (· (with_reducible first | exact cli_s0 .. | exact cli_s1 .. | exact cli_s2 .. | exact cli_s3 .. | exact cli_s4 .. | exact cli_s5 .. | exact cli_s6 .. | exact cli_s7 .. | exact cli_s15 .. | exact cli_s16 .. | exact cli_s17 .. | exact cli_s22 .. | exact lett_s0 .. | exact lett_s1 .. | exact lett_s2 .. | exact lett_s10 .. | exact lett_s11 .. | exact lett_s12 ..)); (· (repeat (first | (with_reducible exact Repl.here) | with_reducible apply Repl.there))); (clear H; intro _ H); (simp only [Act.put, List.setIfInBounds_toArray, List.set_cons_zero, List.set_cons_succ])) | ((with_reducible show wpList _ _ _ (_ :: _) _ _); (with_reducible apply wpl_storeSH); (· exact cell_steps); (· rfl); (· rfl); (· rfl); (· exact H); (· (repeat (first | (with_reducible exact List.mem_cons_self) | with_reducible apply List.mem_cons_of_mem))); (· (simp only [cli_sz, lett_sz, Nat.reduceLT]; done)); (· (with_reducible first | exact cli_s0 .. | exact cli_s1 .. | exact cli_s2 .. | exact cli_s3 .. | exact cli_s4 .. | exact cli_s5 .. | exact cli_s6 .. | exact cli_s7 .. | exact cli_s15 .. | exact cli_s16 .. | exact cli_s17 .. | exact cli_s22 .. | exact lett_s0 .. | exact lett_s1 .. | exact lett_s2 .. | exact lett_s10 .. | exact lett_s11 .. | exact lett_s12 ..)); (· (repeat (first | (with_reducible exact Repl.here) | with_reducible apply Repl.there))); (clear H; intro _ H); (simp only [Act.put, List.setIfInBounds_toArray, List.set_cons_zero, List.set_cons_succ])) | ((with_reducible show wpList _ _ _ (_ :: _) _ _); (with_reducible apply wpl_storePH); (· exact cell_steps); (· rfl); (· rfl); (· rfl); (· exact H); (· (repeat (first | (with_reducible exact List.mem_cons_self) | with_reducible apply List.mem_cons_of_mem))); (· (simp only [cli_sz, lett_sz, Nat.reduceLT]; done)); (· (with_reducible first | exact cli_s0 .. | exact cli_s1 .. | exact cli_s2 .. | exact cli_s3 .. | exact cli_s4 .. | exact cli_s5 .. | exact cli_s6 .. | exact cli_s7 .. | exact cli_s15 .. | exact cli_s16 .. | exact cli_s17 .. | exact cli_s22 .. | exact lett_s0 .. | exact lett_s1 .. | exact lett_s2 .. | exact lett_s10 .. | exact lett_s11 .. | exact lett_s12 ..)); (· (repeat (first | (with_reducible exact Repl.here) | with_reducible apply Repl.there))); (clear H; intro _ H); (simp only [Act.put, List.setIfInBounds_toArray, List.set_cons_zero, List.set_cons_succ])))
    | ((with_reducible show wpList _ _ _ (_ :: _) _ _); (with_reducible apply wpl_loadRH row_lett); (· rfl); (· rfl); (· exact H); (· (repeat (first | (with_reducible exact List.mem_cons_self) | with_reducible apply List.mem_cons_of_mem))); (· (simp only [cli_sz, lett_sz, Nat.reduceAdd, Nat.reduceLeDiff, Nat.le_refl]; done)); (· with_reducible exact lett_all ..); (simp only [Act.put, List.setIfInBounds_toArray, List.set_cons_zero, List.set_cons_succ]))
    | ((with_reducible show wpList _ _ _ (_ :: _) _ _); (with_reducible apply wpl_bsRH); (· rfl); (· rfl); (· exact bs_lett); (· exact lett_bs ..); (· exact H); (clear H; intro q1 _ H); (simp only [Act.put, List.setIfInBounds_toArray, List.set_cons_zero, List.set_cons_succ])))
  go_ret
  exact ⟨q1, g4, c4, rfl, H.drop (.there (.there .here))⟩

theorem row_cmd : RowTy 24 1 #[.slice none 0 0] := ⟨⟨_, Try.underlying24, rfl⟩, by kernel_rfl, by kernel_rfl⟩
def cmd (steps : Value) : Array Value := #[steps]
section
variable (steps : Value)
theorem cmd_sz : (cmd steps).size = 1 := rfl
theorem cmd_g0 : (cmd steps)[0]? = some (steps) := rfl
theorem cmd_s0 (v : Value) : (cmd steps).setIfInBounds 0 (v) = cmd v := rfl
end
theorem cmd_all (s : Value) : (cmd s).extract 0 (0 + 1) = #[s] := by simp [cmd]
theorem lett_op (k f c m : Int) (a0 : Option Addr) (n0 c0 : Nat) (b : Bool) : Cells 18 #[.int .u8 k, .int .u8 f, .int .u8 0, .int .u64 0, .int .u64 0, .int .u64 0, .int .u64 0, .bool false, .slice none 0 0, .slice none 0 0, .int .u8 c, .int .u64 m, .slice a0 n0 c0, .int .i64 0, .int .i64 0, .int .i64 0, .slice none 0 0, .bool b] := by
  refine ⟨rfl, ?_⟩
  simp [Value.oneCell']
theorem row_open : RowTy 43 18 #[.int .u8 0, .int .u8 0, .int .u8 0, .int .u64 0, .int .u64 0, .int .u64 0, .int .u64 0, .bool false, .slice none 0 0, .slice none 0 0, .int .u8 0, .int .u64 0, .slice none 0 0, .int .i64 0, .int .i64 0, .int .i64 0, .slice none 0 0, .bool false] := ⟨⟨_, Try.underlying43, rfl⟩, by kernel_rfl, by kernel_rfl⟩
theorem call_H (p b off m c : Nat) (id n to num num' waits kind frm lto cid cnum : Int) (s0 : Value) (cs : List Value) (H : Heap W (Cli p id n to num waits kind frm lto cid cnum s0 false :: l) w) (h0 : 0 < m) (hm : m ≤ 8) (hl : cs.length = m * 10) (h1 : OneCells cs) (ht : 0 ≤ to ∧ to ≤ 255) (hid : 0 ≤ id ∧ id ≤ 8)
    (hn : decide (0 < n) = true) (hnum : IntKind.u64.wrap (num + 1) = num') (R : ∀ w', Heap W l w' → Rd w' (some ⟨b, off, none⟩) cs) :
    Calls Try.prog 8 #[.pointer (some ⟨p, 0, none⟩), .agg #[.slice (some ⟨b, off, none⟩) m c]] w fun e w' => ∃ q g' c' g c0, e = .returned (.tuple #[.slice (some ⟨q, 0, none⟩) 1 1, .int .i64 0]) ∧
      Heap W (Cel q (lett 6 (100 + id) to id num' (.slice (some ⟨g', 0, none⟩) m m)) 36 :: StepsT g' m c' cs :: Cli p id n to num' 0 6 (100 + id) to id num' (.slice (some ⟨g, 0, none⟩) m c0) true :: StepsT g m c0 cs :: l) w' := by
  have hw : IntKind.u8.wrap (100 + id) = 100 + id := IntWalk.u8_in _ (by omega)
  have k0 : ((m : Int) == 0) = false := by simp; omega
  have k1 : decide (8 < (m : Int)) = false := by simp; omega
  have k2 : decide (8 < m) = false := by simp; omega
  have k3 : (m == 0) = false := by simp; omega
  have HT := Lib.hid ht
  have HI := Lib.hid hid
  have H0 := Lib.hid h0
  have HM := Lib.hid hm
  have HL := Lib.hid hl
  have HN := Lib.hid hnum
  clear ht hid h0 hm hl hnum
  unfold Cli at *
  go_enter Try.func8, Try.ntmps8
  go_wp2_with (first
    | ((with_reducible show wpList _ _ _ (_ :: _) _ _); (with_reducible apply wpl_boxRH); (· rfl); (· rfl); (· exact H); (clear H; intro px _ H); (simp only [Act.put, List.setIfInBounds_toArray, List.set_cons_zero, List.set_cons_succ]); change Heap _ (Cel px (cmd _) _ :: _) _ at H)
    | ((with_reducible apply there_call H); (· (repeat (first | (with_reducible exact List.mem_cons_self) | with_reducible apply List.mem_cons_of_mem))); (· exact hn); (clear H; intro _ H))
    | ((with_reducible show wpList _ _ _ (_ :: _) _ _); (with_reducible apply wpl_loadCH); (· first | exact cell_bool | exact cell_u64 | exact cell_steps); (· rfl); (· rfl); (· exact H); (· (repeat (first | (with_reducible exact List.mem_cons_self) | with_reducible apply List.mem_cons_of_mem))); (· (with_reducible first | exact cli_g0 .. | exact cli_g1 .. | exact cli_g2 .. | exact cli_g3 .. | exact cli_g4 .. | exact cli_g5 .. | exact cli_g6 .. | exact cli_g7 .. | exact cli_g8 .. | exact cli_g9 .. | exact cli_g10 .. | exact cli_g11 .. | exact cli_g12 .. | exact cli_g13 .. | exact cli_g14 .. | exact cli_g15 .. | exact cli_g16 .. | exact cli_g17 .. | exact cli_g18 .. | exact cli_g19 .. | exact cli_g20 .. | exact cli_g21 .. | exact cli_g22 .. | exact cmd_g0 ..)); (simp only [Act.put, List.setIfInBounds_toArray, List.set_cons_zero, List.set_cons_succ]))
    | (first | ((with_reducible show wpList _ _ _ (_ :: _) _ _); (with_reducible apply wpl_storeIH); (· exact cell_u64); (· rfl); (· rfl); (· rfl); (· exact H); (· (repeat (first | (with_reducible exact List.mem_cons_self) | with_reducible apply List.mem_cons_of_mem))); (· (simp only [cli_sz, cmd_sz, Nat.reduceLT]; done)); (· (with_reducible first | exact cli_s0 .. | exact cli_s1 .. | exact cli_s2 .. | exact cli_s3 .. | exact cli_s4 .. | exact cli_s5 .. | exact cli_s6 .. | exact cli_s7 .. | exact cli_s15 .. | exact cli_s16 .. | exact cli_s17 .. | exact cli_s22 .. | exact cmd_s0 ..)); (· (repeat (first | (with_reducible exact Repl.here) | with_reducible apply Repl.there))); (clear H; intro _ H); (simp only [Act.put, List.setIfInBounds_toArray, List.set_cons_zero, List.set_cons_succ])) | ((with_reducible show wpList _ _ _ (_ :: _) _ _); (with_reducible apply wpl_storeBH); (· exact cell_u64); (· rfl); (· rfl); (· rfl); (· exact H); (· (repeat (first | (with_reducible exact List.mem_cons_self) | with_reducible apply List.mem_cons_of_mem))); (· (simp only [cli_sz, cmd_sz, Nat.reduceLT]; done)); (· (with_reducible first | exact cli_s0 .. | exact cli_s1 .. | exact cli_s2 .. | exact cli_s3 .. | exact cli_s4 .. | exact cli_s5 .. | exact cli_s6 .. | exact cli_s7 .. | exact cli_s15 .. | exact cli_s16 .. | exact cli_s17 .. | exact cli_s22 .. | exact cmd_s0 ..)); (· (repeat (first | (with_reducible exact Repl.here) | with_reducible apply Repl.there))); (clear H; intro _ H); (simp only [Act.put, List.setIfInBounds_toArray, List.set_cons_zero, List.set_cons_succ])) | ((with_reducible show wpList _ _ _ (_ :: _) _ _); (with_reducible apply wpl_storeSH); (· exact cell_u64); (· rfl); (· rfl); (· rfl); (· exact H); (· (repeat (first | (with_reducible exact List.mem_cons_self) | with_reducible apply List.mem_cons_of_mem))); (· (simp only [cli_sz, cmd_sz, Nat.reduceLT]; done)); (· (with_reducible first | exact cli_s0 .. | exact cli_s1 .. | exact cli_s2 .. | exact cli_s3 .. | exact cli_s4 .. | exact cli_s5 .. | exact cli_s6 .. | exact cli_s7 .. | exact cli_s15 .. | exact cli_s16 .. | exact cli_s17 .. | exact cli_s22 .. | exact cmd_s0 ..)); (· (repeat (first | (with_reducible exact Repl.here) | with_reducible apply Repl.there))); (clear H; intro _ H); (simp only [Act.put, List.setIfInBounds_toArray, List.set_cons_zero, List.set_cons_succ])) | ((with_reducible show wpList _ _ _ (_ :: _) _ _); (with_reducible apply wpl_storePH); (· exact cell_u64); (· rfl); (· rfl); (· rfl); (· exact H); (· (repeat (first | (with_reducible exact List.mem_cons_self) | with_reducible apply List.mem_cons_of_mem))); (· (simp only [cli_sz, cmd_sz, Nat.reduceLT]; done)); (· (with_reducible first | exact cli_s0 .. | exact cli_s1 .. | exact cli_s2 .. | exact cli_s3 .. | exact cli_s4 .. | exact cli_s5 .. | exact cli_s6 .. | exact cli_s7 .. | exact cli_s15 .. | exact cli_s16 .. | exact cli_s17 .. | exact cli_s22 .. | exact cmd_s0 ..)); (· (repeat (first | (with_reducible exact Repl.here) | with_reducible apply Repl.there))); (clear H; intro _ H); (simp only [Act.put, List.setIfInBounds_toArray, List.set_cons_zero, List.set_cons_succ]))))
  rw [HN.out] at H ⊢
  have C := cloneS b off m c cs H H0.out (by have := HM.out; omega) HL.out (R _ H.tail.tail) h1
  clear H
  refine C.mono ?_
  clear C
  rintro e w4 ⟨g4, c4, rfl, hc4, hm4, H⟩
  go_wp2_with (first | ((with_reducible show wpList _ _ _ (_ :: _) _ _); (with_reducible apply wpl_storeIH); (· exact cell_steps); (· rfl); (· rfl); (· rfl); (· exact H); (· (repeat (first | (with_reducible exact List.mem_cons_self) | with_reducible apply List.mem_cons_of_mem))); (· (simp only [cli_sz, cmd_sz, Nat.reduceLT]; done)); (· (with_reducible first | exact cli_s0 .. | exact cli_s1 .. | exact cli_s2 .. | exact cli_s3 .. | exact cli_s4 .. | exact cli_s5 .. | exact cli_s6 .. | exact cli_s7 .. | exact cli_s15 .. | exact cli_s16 .. | exact cli_s17 .. | exact cli_s22 .. | exact cmd_s0 ..)); (· (repeat (first | (with_reducible exact Repl.here) | with_reducible apply Repl.there))); (clear H; intro _ H); (simp only [Act.put, List.setIfInBounds_toArray, List.set_cons_zero, List.set_cons_succ])) | ((with_reducible show wpList _ _ _ (_ :: _) _ _); (with_reducible apply wpl_storeBH); (· exact cell_steps); (· rfl); (· rfl); (· rfl); (· exact H); (· (repeat (first | (with_reducible exact List.mem_cons_self) | with_reducible apply List.mem_cons_of_mem))); (· (simp only [cli_sz, cmd_sz, Nat.reduceLT]; done)); (· (with_reducible first | exact cli_s0 .. | exact cli_s1 .. | exact cli_s2 .. | exact cli_s3 .. | exact cli_s4 .. | exact cli_s5 .. | exact cli_s6 .. | exact cli_s7 .. | exact cli_s15 .. | exact cli_s16 .. | exact cli_s17 .. | exact cli_s22 .. | exact cmd_s0 ..)); (· (repeat (first | (with_reducible exact Repl.here) | with_reducible apply Repl.there))); (clear H; intro _ H); (simp only [Act.put, List.setIfInBounds_toArray, List.set_cons_zero, List.set_cons_succ])) | ((with_reducible show wpList _ _ _ (_ :: _) _ _); (with_reducible apply wpl_storeSH); (· exact cell_steps); (· rfl); (· rfl); (· rfl); (· exact H); (· (repeat (first | (with_reducible exact List.mem_cons_self) | with_reducible apply List.mem_cons_of_mem))); (· (simp only [cli_sz, cmd_sz, Nat.reduceLT]; done)); (· (with_reducible first | exact cli_s0 .. | exact cli_s1 .. | exact cli_s2 .. | exact cli_s3 .. | exact cli_s4 .. | exact cli_s5 .. | exact cli_s6 .. | exact cli_s7 .. | exact cli_s15 .. | exact cli_s16 .. | exact cli_s17 .. | exact cli_s22 .. | exact cmd_s0 ..)); (· (repeat (first | (with_reducible exact Repl.here) | with_reducible apply Repl.there))); (clear H; intro _ H); (simp only [Act.put, List.setIfInBounds_toArray, List.set_cons_zero, List.set_cons_succ])) | ((with_reducible show wpList _ _ _ (_ :: _) _ _); (with_reducible apply wpl_storePH); (· exact cell_steps); (· rfl); (· rfl); (· rfl); (· exact H); (· (repeat (first | (with_reducible exact List.mem_cons_self) | with_reducible apply List.mem_cons_of_mem))); (· (simp only [cli_sz, cmd_sz, Nat.reduceLT]; done)); (· (with_reducible first | exact cli_s0 .. | exact cli_s1 .. | exact cli_s2 .. | exact cli_s3 .. | exact cli_s4 .. | exact cli_s5 .. | exact cli_s6 .. | exact cli_s7 .. | exact cli_s15 .. | exact cli_s16 .. | exact cli_s17 .. | exact cli_s22 .. | exact cmd_s0 ..)); (· (repeat (first | (with_reducible exact Repl.here) | with_reducible apply Repl.there))); (clear H; intro _ H); (simp only [Act.put, List.setIfInBounds_toArray, List.set_cons_zero, List.set_cons_succ])))
  refine wp_region_H_tail 20 H (by kernel_rfl) (by kernel_rfl) ?_
  simp only [List.take_succ_cons, List.take_zero, List.drop_succ_cons, List.drop_zero]
  repeat (first | go_big_quiet_skip | ((with_reducible apply wpQ_loadCH); (· first | exact cell_b8 | exact cell_u64); (· rfl); (· rfl); (· (repeat (first | (with_reducible exact List.mem_cons_self) | with_reducible apply List.mem_cons_of_mem))); (· (with_reducible first | exact cli_g0 .. | exact cli_g1 .. | exact cli_g2 .. | exact cli_g3 .. | exact cli_g4 .. | exact cli_g5 .. | exact cli_g6 .. | exact cli_g7 .. | exact cli_g8 .. | exact cli_g9 .. | exact cli_g10 .. | exact cli_g11 .. | exact cli_g12 .. | exact cli_g13 .. | exact cli_g14 .. | exact cli_g15 .. | exact cli_g16 .. | exact cli_g17 .. | exact cli_g18 .. | exact cli_g19 .. | exact cli_g20 .. | exact cli_g21 .. | exact cli_g22 .. | exact cmd_g0 ..)); (simp only [Act.put, List.setIfInBounds_toArray, List.set_cons_zero, List.set_cons_succ])) | ((with_reducible apply wpQ_loadRH row_cmd); (· rfl); (· rfl); (· (repeat (first | (with_reducible exact List.mem_cons_self) | with_reducible apply List.mem_cons_of_mem))); (· (simp only [cmd_sz, Nat.reduceAdd, Nat.reduceLeDiff, Nat.le_refl]; done)); (· with_reducible exact cmd_all ..); (simp only [Act.put, List.setIfInBounds_toArray, List.set_cons_zero, List.set_cons_succ])) | go_big_quiet_step (fail))
  refine wpQuiet_nil ?_
  clear H
  intro _ H
  go_wp2_with ((with_reducible show wpList _ _ _ (_ :: _) _ _); (with_reducible apply wpl_storeRH row_open); (· rfl); (· rfl); (· rfl); (· with_reducible exact lett_op ..); (· exact H); (· (repeat (first | (with_reducible exact List.mem_cons_self) | with_reducible apply List.mem_cons_of_mem))); (· (simp only [cli_sz, Nat.reduceAdd, Nat.reduceLeDiff, Nat.le_refl]; done)); (· with_reducible exact cli_open ..); (· (repeat (first | (with_reducible exact Repl.here) | with_reducible apply Repl.there))); (clear H; intro _ H); (simp only [Act.put, List.setIfInBounds_toArray, List.set_cons_zero, List.set_cons_succ]))
  have C := calls_H p g4 m c4 id n to num' waits 6 (100 + id) 0 id num' cs (H.pull (.there (.there .here))) H0.out (by have := HM.out; omega) HL.out h1 HT.out
  clear H
  refine C.mono ?_
  clear C
  rintro e w5 ⟨q5, g5, c5, rfl, H⟩
  go_wp2_with fail
  go_ret2
  exact ⟨q5, g5, c5, g4, c4, rfl, H.drop (.there (.there (.there (.there .here))))⟩

/-- A call while another one is open. -/
theorem call_busy (p : Nat) (id n to num waits kind frm lto cid cnum : Int) (s0 x : Value) (hn : decide (0 < n) = true) (H : Heap W (Cli p id n to num waits kind frm lto cid cnum s0 true :: l) w) :
    Calls Try.prog 8 #[.pointer (some ⟨p, 0, none⟩), .agg #[x]] w fun e w' => e = .returned (.tuple #[.slice none 0 0, .int .i64 17]) ∧ Heap W (Cli p id n to num waits kind frm lto cid cnum s0 true :: l) w' := by
  unfold Cli at *
  go_enter Try.func8, Try.ntmps8
  go_wp2_with (first
    | ((with_reducible show wpList _ _ _ (_ :: _) _ _); (with_reducible apply wpl_boxRH); (· rfl); (· rfl); (· exact H); (clear H; intro px _ H); (simp only [Act.put, List.setIfInBounds_toArray, List.set_cons_zero, List.set_cons_succ]))
    | ((with_reducible apply there_call H); (· (repeat (first | (with_reducible exact List.mem_cons_self) | with_reducible apply List.mem_cons_of_mem))); (· exact hn); (clear H; intro _ H))
    | ((with_reducible show wpList _ _ _ (_ :: _) _ _); (with_reducible apply wpl_loadCH); (· exact cell_bool); (· rfl); (· rfl); (· exact H); (· (repeat (first | (with_reducible exact List.mem_cons_self) | with_reducible apply List.mem_cons_of_mem))); (· (with_reducible first | exact cli_g0 .. | exact cli_g1 .. | exact cli_g2 .. | exact cli_g3 .. | exact cli_g4 .. | exact cli_g5 .. | exact cli_g6 .. | exact cli_g7 .. | exact cli_g8 .. | exact cli_g9 .. | exact cli_g10 .. | exact cli_g11 .. | exact cli_g12 .. | exact cli_g13 .. | exact cli_g14 .. | exact cli_g15 .. | exact cli_g16 .. | exact cli_g17 .. | exact cli_g18 .. | exact cli_g19 .. | exact cli_g20 .. | exact cli_g21 .. | exact cli_g22 ..)); (simp only [Act.put, List.setIfInBounds_toArray, List.set_cons_zero, List.set_cons_succ])))
  go_ret2
  exact ⟨rfl, H.tail⟩
/-- Time goes on: nothing is open. -/
theorem tick_none (p : Nat) (id n to num waits kind frm lto cid cnum : Int) (s0 : Value) (hn : decide (0 < n) = true) (H : Heap W (Cli p id n to num waits kind frm lto cid cnum s0 false :: l) w) :
    Calls Try.prog 10 #[.pointer (some ⟨p, 0, none⟩)] w fun e w' => e = .returned (.slice none 0 0) ∧ Heap W (Cli p id n to num waits kind frm lto cid cnum s0 false :: l) w' := by
  unfold Cli at *
  go_enter Try.func10, Try.ntmps10
  go_wp2_with ((with_reducible apply open_call H); (· (repeat (first | (with_reducible exact List.mem_cons_self) | with_reducible apply List.mem_cons_of_mem))); (· exact hn); (clear H; intro _ H))
  go_ret
  exact ⟨rfl, H⟩
/-- Time goes on: one more to wait. -/
theorem tick_wait (p : Nat) (id n to num waits kind frm lto cid cnum : Int) (s0 : Value) (hn : decide (0 < n) = true) (h0 : 0 ≤ waits) (h4 : waits < 4) (H : Heap W (Cli p id n to num waits kind frm lto cid cnum s0 true :: l) w) :
    Calls Try.prog 10 #[.pointer (some ⟨p, 0, none⟩)] w fun e w' => e = .returned (.slice none 0 0) ∧ Heap W (Cli p id n to num (waits + 1) kind frm lto cid cnum s0 true :: l) w' := by
  unfold Cli at *
  go_enter Try.func10, Try.ntmps10
  go_wp2_with (first | ((with_reducible apply open_call H); (· (repeat (first | (with_reducible exact List.mem_cons_self) | with_reducible apply List.mem_cons_of_mem))); (· exact hn); (clear H; intro _ H)) | ((with_reducible show wpList _ _ _ (_ :: _) _ _); (with_reducible apply wpl_loadCH); (· exact cell_i64); (· rfl); (· rfl); (· exact H); (· (repeat (first | (with_reducible exact List.mem_cons_self) | with_reducible apply List.mem_cons_of_mem))); (· (with_reducible first | exact cli_g0 .. | exact cli_g1 .. | exact cli_g2 .. | exact cli_g3 .. | exact cli_g4 .. | exact cli_g5 .. | exact cli_g6 .. | exact cli_g7 .. | exact cli_g8 .. | exact cli_g9 .. | exact cli_g10 .. | exact cli_g11 .. | exact cli_g12 .. | exact cli_g13 .. | exact cli_g14 .. | exact cli_g15 .. | exact cli_g16 .. | exact cli_g17 .. | exact cli_g18 .. | exact cli_g19 .. | exact cli_g20 .. | exact cli_g21 .. | exact cli_g22 ..)); (simp only [Act.put, List.setIfInBounds_toArray, List.set_cons_zero, List.set_cons_succ])) | (first | ((with_reducible show wpList _ _ _ (_ :: _) _ _); (with_reducible apply wpl_storeIH); (· exact cell_i64); (· rfl); (· rfl); (· rfl); (· exact H); (· (repeat (first | (with_reducible exact List.mem_cons_self) | with_reducible apply List.mem_cons_of_mem))); (· (simp only [cli_sz, Nat.reduceLT]; done)); (· (with_reducible first | exact cli_s0 .. | exact cli_s1 .. | exact cli_s2 .. | exact cli_s3 .. | exact cli_s4 .. | exact cli_s5 .. | exact cli_s6 .. | exact cli_s7 .. | exact cli_s15 .. | exact cli_s16 .. | exact cli_s17 .. | exact cli_s22 ..)); (· (repeat (first | (with_reducible exact Repl.here) | with_reducible apply Repl.there))); (clear H; intro _ H); (simp only [Act.put, List.setIfInBounds_toArray, List.set_cons_zero, List.set_cons_succ])) | ((with_reducible show wpList _ _ _ (_ :: _) _ _); (with_reducible apply wpl_storeBH); (· exact cell_i64); (· rfl); (· rfl); (· rfl); (· exact H); (· (repeat (first | (with_reducible exact List.mem_cons_self) | with_reducible apply List.mem_cons_of_mem))); (· (simp only [cli_sz, Nat.reduceLT]; done)); (· (with_reducible first | exact cli_s0 .. | exact cli_s1 .. | exact cli_s2 .. | exact cli_s3 .. | exact cli_s4 .. | exact cli_s5 .. | exact cli_s6 .. | exact cli_s7 .. | exact cli_s15 .. | exact cli_s16 .. | exact cli_s17 .. | exact cli_s22 ..)); (· (repeat (first | (with_reducible exact Repl.here) | with_reducible apply Repl.there))); (clear H; intro _ H); (simp only [Act.put, List.setIfInBounds_toArray, List.set_cons_zero, List.set_cons_succ])) | ((with_reducible show wpList _ _ _ (_ :: _) _ _); (with_reducible apply wpl_storeSH); (· exact cell_i64); (· rfl); (· rfl); (· rfl); (· exact H); (· (repeat (first | (with_reducible exact List.mem_cons_self) | with_reducible apply List.mem_cons_of_mem))); (· (simp only [cli_sz, Nat.reduceLT]; done)); (· (with_reducible first | exact cli_s0 .. | exact cli_s1 .. | exact cli_s2 .. | exact cli_s3 .. | exact cli_s4 .. | exact cli_s5 .. | exact cli_s6 .. | exact cli_s7 .. | exact cli_s15 .. | exact cli_s16 .. | exact cli_s17 .. | exact cli_s22 ..)); (· (repeat (first | (with_reducible exact Repl.here) | with_reducible apply Repl.there))); (clear H; intro _ H); (simp only [Act.put, List.setIfInBounds_toArray, List.set_cons_zero, List.set_cons_succ])) | ((with_reducible show wpList _ _ _ (_ :: _) _ _); (with_reducible apply wpl_storePH); (· exact cell_i64); (· rfl); (· rfl); (· rfl); (· exact H); (· (repeat (first | (with_reducible exact List.mem_cons_self) | with_reducible apply List.mem_cons_of_mem))); (· (simp only [cli_sz, Nat.reduceLT]; done)); (· (with_reducible first | exact cli_s0 .. | exact cli_s1 .. | exact cli_s2 .. | exact cli_s3 .. | exact cli_s4 .. | exact cli_s5 .. | exact cli_s6 .. | exact cli_s7 .. | exact cli_s15 .. | exact cli_s16 .. | exact cli_s17 .. | exact cli_s22 ..)); (· (repeat (first | (with_reducible exact Repl.here) | with_reducible apply Repl.there))); (clear H; intro _ H); (simp only [Act.put, List.setIfInBounds_toArray, List.set_cons_zero, List.set_cons_succ]))))
  go_ret
  exact ⟨rfl, H⟩
/-- The fifth tick: it calls the next one. -/
theorem tick_call (p g m c : Nat) (id n to to' num kind frm lto cid cnum : Int) (cs : List Value) (hn0 : 0 < n) (hn7 : n ≤ 7) (h0 : 0 < m) (hm : m ≤ 8) (hl : cs.length = m * 10) (h1 : OneCells cs) (ht : 1 ≤ to ∧ to ≤ 7) (ht' : to % n + 1 = to') (H : Heap W (Cli p id n to num 4 kind frm lto cid cnum (.slice (some ⟨g, 0, none⟩) m c) true :: StepsT g m c cs :: l) w) :
    Calls Try.prog 10 #[.pointer (some ⟨p, 0, none⟩)] w fun e w' => ∃ q g' c', e = .returned (.slice (some ⟨q, 0, none⟩) 1 1) ∧
      Heap W (Cel q (lett kind frm to' cid cnum (.slice (some ⟨g', 0, none⟩) m m)) 36 :: StepsT g' m c' cs :: Cli p id n to' num 0 kind frm to' cid cnum (.slice (some ⟨g, 0, none⟩) m c) true :: StepsT g m c cs :: l) w' := by
  have hn : decide (0 < n) = true := by simpa using hn0
  have hne : (n == 0) = false := by simp; omega
  have hq : 0 ≤ to' ∧ to' ≤ 255 := by
    have h1 := Int.emod_nonneg to (b := n) (by omega)
    have h2 := Int.emod_lt_of_pos to (b := n) (by omega)
    omega
  have h3 : 0 ≤ to := by omega
  have h5 : to ≤ 7 := by omega
  have H0 := Lib.hid h0
  have HM := Lib.hid hm
  have HL := Lib.hid hl
  have HT := Lib.hid ht'
  have HQ := Lib.hid hq
  clear h0 hm hl ht' hq ht
  unfold Cli at *
  go_enter Try.func10, Try.ntmps10
  go_wp2_with (first | ((with_reducible apply open_call H); (· (repeat (first | (with_reducible exact List.mem_cons_self) | with_reducible apply List.mem_cons_of_mem))); (· exact hn); (clear H; intro _ H)) | ((with_reducible show wpList _ _ _ (_ :: _) _ _); (with_reducible apply wpl_loadCH); (· exact cell_i64); (· rfl); (· rfl); (· exact H); (· (repeat (first | (with_reducible exact List.mem_cons_self) | with_reducible apply List.mem_cons_of_mem))); (· (with_reducible first | exact cli_g0 .. | exact cli_g1 .. | exact cli_g2 .. | exact cli_g3 .. | exact cli_g4 .. | exact cli_g5 .. | exact cli_g6 .. | exact cli_g7 .. | exact cli_g8 .. | exact cli_g9 .. | exact cli_g10 .. | exact cli_g11 .. | exact cli_g12 .. | exact cli_g13 .. | exact cli_g14 .. | exact cli_g15 .. | exact cli_g16 .. | exact cli_g17 .. | exact cli_g18 .. | exact cli_g19 .. | exact cli_g20 .. | exact cli_g21 .. | exact cli_g22 ..)); (simp only [Act.put, List.setIfInBounds_toArray, List.set_cons_zero, List.set_cons_succ])) | (first | ((with_reducible show wpList _ _ _ (_ :: _) _ _); (with_reducible apply wpl_storeIH); (· exact cell_i64); (· rfl); (· rfl); (· rfl); (· exact H); (· (repeat (first | (with_reducible exact List.mem_cons_self) | with_reducible apply List.mem_cons_of_mem))); (· (simp only [cli_sz, Nat.reduceLT]; done)); (· (with_reducible first | exact cli_s0 .. | exact cli_s1 .. | exact cli_s2 .. | exact cli_s3 .. | exact cli_s4 .. | exact cli_s5 .. | exact cli_s6 .. | exact cli_s7 .. | exact cli_s15 .. | exact cli_s16 .. | exact cli_s17 .. | exact cli_s22 ..)); (· (repeat (first | (with_reducible exact Repl.here) | with_reducible apply Repl.there))); (clear H; intro _ H); (simp only [Act.put, List.setIfInBounds_toArray, List.set_cons_zero, List.set_cons_succ])) | ((with_reducible show wpList _ _ _ (_ :: _) _ _); (with_reducible apply wpl_storeBH); (· exact cell_i64); (· rfl); (· rfl); (· rfl); (· exact H); (· (repeat (first | (with_reducible exact List.mem_cons_self) | with_reducible apply List.mem_cons_of_mem))); (· (simp only [cli_sz, Nat.reduceLT]; done)); (· (with_reducible first | exact cli_s0 .. | exact cli_s1 .. | exact cli_s2 .. | exact cli_s3 .. | exact cli_s4 .. | exact cli_s5 .. | exact cli_s6 .. | exact cli_s7 .. | exact cli_s15 .. | exact cli_s16 .. | exact cli_s17 .. | exact cli_s22 ..)); (· (repeat (first | (with_reducible exact Repl.here) | with_reducible apply Repl.there))); (clear H; intro _ H); (simp only [Act.put, List.setIfInBounds_toArray, List.set_cons_zero, List.set_cons_succ])) | ((with_reducible show wpList _ _ _ (_ :: _) _ _); (with_reducible apply wpl_storeSH); (· exact cell_i64); (· rfl); (· rfl); (· rfl); (· exact H); (· (repeat (first | (with_reducible exact List.mem_cons_self) | with_reducible apply List.mem_cons_of_mem))); (· (simp only [cli_sz, Nat.reduceLT]; done)); (· (with_reducible first | exact cli_s0 .. | exact cli_s1 .. | exact cli_s2 .. | exact cli_s3 .. | exact cli_s4 .. | exact cli_s5 .. | exact cli_s6 .. | exact cli_s7 .. | exact cli_s15 .. | exact cli_s16 .. | exact cli_s17 .. | exact cli_s22 ..)); (· (repeat (first | (with_reducible exact Repl.here) | with_reducible apply Repl.there))); (clear H; intro _ H); (simp only [Act.put, List.setIfInBounds_toArray, List.set_cons_zero, List.set_cons_succ])) | ((with_reducible show wpList _ _ _ (_ :: _) _ _); (with_reducible apply wpl_storePH); (· exact cell_i64); (· rfl); (· rfl); (· rfl); (· exact H); (· (repeat (first | (with_reducible exact List.mem_cons_self) | with_reducible apply List.mem_cons_of_mem))); (· (simp only [cli_sz, Nat.reduceLT]; done)); (· (with_reducible first | exact cli_s0 .. | exact cli_s1 .. | exact cli_s2 .. | exact cli_s3 .. | exact cli_s4 .. | exact cli_s5 .. | exact cli_s6 .. | exact cli_s7 .. | exact cli_s15 .. | exact cli_s16 .. | exact cli_s17 .. | exact cli_s22 ..)); (· (repeat (first | (with_reducible exact Repl.here) | with_reducible apply Repl.there))); (clear H; intro _ H); (simp only [Act.put, List.setIfInBounds_toArray, List.set_cons_zero, List.set_cons_succ]))))
  refine wp_region_H_tail 13 H (by kernel_rfl) (by kernel_rfl) ?_
  simp only [List.take_succ_cons, List.take_zero, List.drop_succ_cons, List.drop_zero]
  repeat (first | go_big_quiet_skip | ((with_reducible apply wpQ_loadCH); (· exact cell_i64); (· rfl); (· rfl); (· (repeat (first | (with_reducible exact List.mem_cons_self) | with_reducible apply List.mem_cons_of_mem))); (· (with_reducible first | exact cli_g0 .. | exact cli_g1 .. | exact cli_g2 .. | exact cli_g3 .. | exact cli_g4 .. | exact cli_g5 .. | exact cli_g6 .. | exact cli_g7 .. | exact cli_g8 .. | exact cli_g9 .. | exact cli_g10 .. | exact cli_g11 .. | exact cli_g12 .. | exact cli_g13 .. | exact cli_g14 .. | exact cli_g15 .. | exact cli_g16 .. | exact cli_g17 .. | exact cli_g18 .. | exact cli_g19 .. | exact cli_g20 .. | exact cli_g21 .. | exact cli_g22 ..)); (simp only [Act.put, List.setIfInBounds_toArray, List.set_cons_zero, List.set_cons_succ])) | go_big_quiet_step (fail))
  refine wpQuiet_nil ?_
  clear H
  intro _ H
  have hwr : wrap64 (to % n + 1) = to' := by
    rw [HT.out]
    have := HQ.out
    exact IntWalk.wrap64_in to' ⟨by omega, by omega⟩
  rw [hwr]
  clear hwr
  go_wp2_with (first | ((with_reducible show wpList _ _ _ (_ :: _) _ _); (with_reducible apply wpl_storeIH); (· exact cell_i64); (· rfl); (· rfl); (· rfl); (· exact H); (· (repeat (first | (with_reducible exact List.mem_cons_self) | with_reducible apply List.mem_cons_of_mem))); (· (simp only [cli_sz, Nat.reduceLT]; done)); (· (with_reducible first | exact cli_s0 .. | exact cli_s1 .. | exact cli_s2 .. | exact cli_s3 .. | exact cli_s4 .. | exact cli_s5 .. | exact cli_s6 .. | exact cli_s7 .. | exact cli_s15 .. | exact cli_s16 .. | exact cli_s17 .. | exact cli_s22 ..)); (· (repeat (first | (with_reducible exact Repl.here) | with_reducible apply Repl.there))); (clear H; intro _ H); (simp only [Act.put, List.setIfInBounds_toArray, List.set_cons_zero, List.set_cons_succ])) | ((with_reducible show wpList _ _ _ (_ :: _) _ _); (with_reducible apply wpl_storeBH); (· exact cell_i64); (· rfl); (· rfl); (· rfl); (· exact H); (· (repeat (first | (with_reducible exact List.mem_cons_self) | with_reducible apply List.mem_cons_of_mem))); (· (simp only [cli_sz, Nat.reduceLT]; done)); (· (with_reducible first | exact cli_s0 .. | exact cli_s1 .. | exact cli_s2 .. | exact cli_s3 .. | exact cli_s4 .. | exact cli_s5 .. | exact cli_s6 .. | exact cli_s7 .. | exact cli_s15 .. | exact cli_s16 .. | exact cli_s17 .. | exact cli_s22 ..)); (· (repeat (first | (with_reducible exact Repl.here) | with_reducible apply Repl.there))); (clear H; intro _ H); (simp only [Act.put, List.setIfInBounds_toArray, List.set_cons_zero, List.set_cons_succ])) | ((with_reducible show wpList _ _ _ (_ :: _) _ _); (with_reducible apply wpl_storeSH); (· exact cell_i64); (· rfl); (· rfl); (· rfl); (· exact H); (· (repeat (first | (with_reducible exact List.mem_cons_self) | with_reducible apply List.mem_cons_of_mem))); (· (simp only [cli_sz, Nat.reduceLT]; done)); (· (with_reducible first | exact cli_s0 .. | exact cli_s1 .. | exact cli_s2 .. | exact cli_s3 .. | exact cli_s4 .. | exact cli_s5 .. | exact cli_s6 .. | exact cli_s7 .. | exact cli_s15 .. | exact cli_s16 .. | exact cli_s17 .. | exact cli_s22 ..)); (· (repeat (first | (with_reducible exact Repl.here) | with_reducible apply Repl.there))); (clear H; intro _ H); (simp only [Act.put, List.setIfInBounds_toArray, List.set_cons_zero, List.set_cons_succ])) | ((with_reducible show wpList _ _ _ (_ :: _) _ _); (with_reducible apply wpl_storePH); (· exact cell_i64); (· rfl); (· rfl); (· rfl); (· exact H); (· (repeat (first | (with_reducible exact List.mem_cons_self) | with_reducible apply List.mem_cons_of_mem))); (· (simp only [cli_sz, Nat.reduceLT]; done)); (· (with_reducible first | exact cli_s0 .. | exact cli_s1 .. | exact cli_s2 .. | exact cli_s3 .. | exact cli_s4 .. | exact cli_s5 .. | exact cli_s6 .. | exact cli_s7 .. | exact cli_s15 .. | exact cli_s16 .. | exact cli_s17 .. | exact cli_s22 ..)); (· (repeat (first | (with_reducible exact Repl.here) | with_reducible apply Repl.there))); (clear H; intro _ H); (simp only [Act.put, List.setIfInBounds_toArray, List.set_cons_zero, List.set_cons_succ])))
  have C := calls_H p g m c id n to' num 5 kind frm lto cid cnum cs H H0.out (by have := HM.out; omega) HL.out h1 HQ.out
  clear H
  refine C.mono ?_
  clear C
  rintro e w5 ⟨q5, g5, c5, rfl, H⟩
  go_wp2_with fail
  go_ret
  exact ⟨q5, g5, c5, rfl, H⟩
end
end Go.Proofs.Ytjipelhcgglhhaa

/- Twins of steps, and whether they were left. -/
namespace Go.Proofs.Ytjipelhcgglhhaa
open Go.RowKit
set_option linter.unusedSimpArgs false
set_option linter.unusedVariables false
abbrev mkSr : RowS := ⟨0, 0, 0, 0, 0, -77, 0, 0, 0, 0⟩
abbrev mkS : Array Value := rowSA mkSr
abbrev mkS2 : List Value := rowSV mkSr ++ rowSV mkSr
theorem mkS2_one : OneCells mkS2 := by
  have := rowSL_ones [mkSr, mkSr]
  simpa [rowSL] using this
/-- A twin: the list, and two marks behind it. -/
abbrev TwS (a : Option Addr) (c n : Nat) (F : List RowS) : Thing := RowT 87 10 (.slice a (n + 2) c) (n + 2) (rowSL F ++ mkS2)
theorem madeRowS {W w : World} {l : List Thing} {g m : Nat} {z : Value} {e size : Nat} (H : Heap W (Cel g (madeCells z.cells (m * size)) e :: l) w) (hm : m ≤ maxLen) : Heap W (RowT e size (.slice (some ⟨g, 0, none⟩) 0 m) 0 [] :: l) w := by
  have := H.celRowA (n := 0) (m := m) (size := size) (by rw [size_madeCells]) (Nat.zero_le _) hm
  simpa using this
section
variable {ops : Array Oper} {rest : List Oper} {a : Act} {w W : World} {l : List Thing} {Q : Exit → Act → World → Prop}
theorem run_bs2S (w : World) : (Instr.buildSlice 22 2 #[(0, .agg mkS), (1, .agg mkS)]).run Try.prog w = .ok (.slice (some ⟨w.heap.size, 0, none⟩) 2 2) (w.alloc (.cells mkS2.toArray 87)) := by
  obtain ⟨i, hi, hz, hsi, hbi⟩ := slS.inf
  have r1 : (sizeOf 87).run Try.prog w = .ok 10 w := by simp [sizeOf, typeInfo, hi, hsi, go_sem]
  have r2 : (zeroValue 87).run Try.prog w = .ok (.agg (rowSA ⟨0, 0, 0, 0, 0, 0, 0, 0, 0, 0⟩)) w := by simp [zeroValue, typeInfo, hi, hz, go_sem]; rfl
  unfold Instr.buildSlice
  rw [Sem.run_bind, run_underlying slS.und]
  simp only [Result.andThen_ok]
  rw [Sem.run_bind, r1]
  simp only [Result.andThen_ok]
  rw [if_neg (by decide), if_neg (by decide)]
  have hf : Instr.fill (fun i => some (i * 10, 10)) (Array.map (fun x => (Value.agg (rowSA ⟨0, 0, 0, 0, 0, 0, 0, 0, 0, 0⟩)).cells[x % (Value.agg (rowSA ⟨0, 0, 0, 0, 0, 0, 0, 0, 0, 0⟩)).cells.size]!) (Array.range (2 * 10))) [(0, Value.agg mkS), (1, Value.agg mkS)] = some mkS2.toArray := by kernel_rfl
  simp only [Sem.run_bind, r2, Result.andThen_ok, Sem.run_pure]
  rw [hf]
  simp [newRow, go_sem]
theorem wpl_bs2S {dst : Option Tmp} {ty : TypeId} {pos : String} {after : Array Edge} {guard : Option (Nat × Bool)} {x y : Operand} (hw : Region.wanted ⟨dst, .buildSlice 22 2 #[(0, x), (1, y)], ty, pos, after, guard⟩ (yielded ops a.tmps) = true)
    (hx : a.eval x = .agg mkS) (hy : a.eval y = .agg mkS) (H : Heap W l w) (h : ∀ p w', Heap W (Cel p mkS2.toArray 87 :: l) w' → wpList Try.prog ops Q rest (a.put dst (.slice (some ⟨p, 0, none⟩) 2 2)) w') : wpList Try.prog ops Q (⟨dst, .buildSlice 22 2 #[(0, x), (1, y)], ty, pos, after, guard⟩ :: rest) a w := by
  refine BigFrame.wpList_want hw fun K hK => ?_
  unfold Oper.wp execOp
  simp only [List.map_toArray, List.map_cons, List.map_nil, hx, hy, Sem.run_bind, run_bs2S, Result.andThen_ok, Sem.run_pure]
  exact hK _ _ (h _ _ (H.alloc _ _))
end
section
variable {W w : World} {l : List Thing}
set_option maxRecDepth 100000
set_option maxHeartbeats 4000000
theorem twin_S (ea : Option Addr) (n ec : Nat) (F : List RowS) (hl : F.length = n) (hn : n ≤ 10000) (R : ∀ l' w', (∀ x ∈ l, x ∈ l') → Heap W l' w' → Rd w' ea (rowSL F)) (H : Heap W l w) :
    Calls Try.prog 32 #[.slice ea n ec, .agg mkS] w fun e w' => ∃ a c, e = .returned (.slice a n c) ∧ n + 2 ≤ c ∧ c ≤ maxLen ∧ Heap W (TwS a c n F :: l) w' := by
  have HR := Lib.hid R
  have hlen : (rowSL F).length = n * 10 := by rw [rowSL_len, hl]
  have h1 : 0 + n ≤ maxLen := by unfold maxLen; omega
  have h2 : (0 + n) * 48 ≤ 140737488355328 := by omega
  have h3 : 0 + n + 2 ≤ maxLen := by unfold maxLen; omega
  have h4 : (0 + n + 2) * 48 ≤ 140737488355328 := by omega
  have h5 : n + 2 ≤ maxLen := by unfold maxLen; omega
  have h6 : n + 2 ≤ 65536 := by omega
  have h7 : 48 * (n + 2) ≤ 281474976710656 := by omega
  clear R hl
  go_enter Try.func32, Try.ntmps32
  go_wp2_with (first
    | go_skip
    | ((with_reducible show wpList _ _ _ (_ :: _) _ _); (with_reducible apply wpl_boxRH); (· rfl); (· rfl); (· exact H); (clear H; intro px _ H); (simp only [Act.put, List.setIfInBounds_toArray, List.set_cons_zero, List.set_cons_succ]))
    | ((with_reducible show wpList _ _ _ (_ :: _) _ _); (with_reducible apply wpl_makeC slS (n := 0) (m := n + 2)); (· rfl); (· rfl); (· rfl); (· rfl); (· omega); (· omega); (· omega); (· exact H); (clear H; intro pm _ H); (simp only [Act.put, List.setIfInBounds_toArray, List.set_cons_zero, List.set_cons_succ]))
    | ((with_reducible show wpList _ _ _ (_ :: _) _ _); (with_reducible apply wpl_appendA slS); (· rfl); (· rfl); (· rfl); (· rfl); (· exact madeRowS H h5); (· exact HR.out _ _ (fun x hx => List.mem_cons_of_mem _ (List.mem_cons_of_mem _ hx)) H); (· exact hlen); (· exact rowSL_ones F); (· exact h1); (· exact h2); (clear H; intro v1 _ _ H); (simp only [Act.put, List.setIfInBounds_toArray, List.set_cons_zero, List.set_cons_succ]))
    | ((with_reducible show wpList _ _ _ (_ :: _) _ _); (with_reducible apply wpl_loadRH rowSTy); (· rfl); (· rfl); (· exact H); (· (repeat (first | (with_reducible exact List.mem_cons_self) | with_reducible apply List.mem_cons_of_mem))); (· (simp only [rowSA_sz, Nat.reduceAdd, Nat.reduceLeDiff, Nat.le_refl]; done)); (· with_reducible exact rowSA_all _); (simp only [Act.put, List.setIfInBounds_toArray, List.set_cons_zero, List.set_cons_succ]))
    | ((with_reducible show wpList _ _ _ (_ :: _) _ _); (with_reducible apply wpl_bs2S); (· rfl); (· rfl); (· rfl); (· exact H); (clear H; intro pk _ H); (simp only [Act.put, List.setIfInBounds_toArray, List.set_cons_zero, List.set_cons_succ]))
    | ((with_reducible show wpList _ _ _ (_ :: _) _ _); (with_reducible apply wpl_appendA slS); (· rfl); (· rfl); (· rfl); (· rfl); (· exact H.pull (.there .here)); (· exact H.celRd List.mem_cons_self); (· rfl); (· exact mkS2_one); (· exact h3); (· exact h4); (clear H; intro v2 _ _ H; obtain ⟨a2, c2, rfl, hc2, hm2⟩ := RowT.form0 (H.ok _ List.mem_cons_self)); (simp only [Act.put, List.setIfInBounds_toArray, List.set_cons_zero, List.set_cons_succ]))
    | ((with_reducible show wpList _ _ _ (_ :: _) _ _); (with_reducible apply wpl_cutTo slS); (· rfl); (· rfl); (· rfl); (· omega); (simp only [Act.put, List.setIfInBounds_toArray, List.set_cons_zero, List.set_cons_succ])))
  go_ret
  simp only [Nat.zero_add, List.nil_append] at H hc2
  exact ⟨a2, c2, rfl, hc2, hm2, (H.drop (.there .here)).drop (.there .here)⟩
theorem twinSteps_H (ea : Option Addr) (n ec : Nat) (F : List RowS) (hl : F.length = n) (hn : n ≤ 10000) (R : ∀ l' w', (∀ x ∈ l, x ∈ l') → Heap W l' w' → Rd w' ea (rowSL F)) (H : Heap W l w) :
    Calls Try.prog 17 #[.slice ea n ec] w fun e w' => ∃ a c, e = .returned (.slice a n c) ∧ n + 2 ≤ c ∧ c ≤ maxLen ∧ Heap W (TwS a c n F :: l) w' := by
  have C := twin_S ea n ec F hl hn R H
  clear hl R H
  go_enter Try.func17, Try.ntmps17
  go_wp2_with (go_skip)
  refine C.mono ?_
  clear C
  rintro e w' ⟨a, c, rfl, h1, h2, H⟩
  go_wp2_with (go_skip)
  go_ret
  exact ⟨a, c, rfl, h1, h2, H⟩
theorem left_S (a ea : Option Addr) (n c ec : Nat) (F : List RowS) (hl : F.length = n) (hn : n ≤ 10000) (hc : n + 2 ≤ c) (hm : c ≤ maxLen) (m : TwS a c n F ∈ l) (R : ∀ l' w', (∀ x ∈ l, x ∈ l') → Heap W l' w' → Rd w' ea (rowSL F)) :
    AnsH W l 35 #[.slice a n c, .slice ea n ec, .agg mkS] (.bool true) := by
  intro w H
  obtain ⟨g, c', e, _, _⟩ := RowT.sl (H.ok _ m) (by omega)
  simp only [Value.slice.injEq, true_and] at e
  obtain ⟨rfl, rfl⟩ := e
  have hlen : (rowSL F).length = n * 10 := by rw [rowSL_len, hl]
  have HT := Lib.hid (show ∀ l' w', TwS (some ⟨g, 0, none⟩) c n F ∈ l' → Heap W l' w' → Rd w' (some ⟨g, 0, none⟩) (rowSL F ++ mkS2) from fun l' w' m h => h.rowRd m)
  have HTF := fun l' w' m h => by
    have := (HT.out l' w' m h).take (rowSL F).length
    rwa [List.take_left] at this
  have HS := fun (x : Thing) => sameS_P (W := W) (l := x :: l) (L := F) (some ⟨g, 0, none⟩) ea n c ec hl (by omega) (fun w' h => HTF _ w' (List.mem_cons_of_mem _ m) h) (fun w' h => R _ w' (fun y hy => List.mem_cons_of_mem _ hy) h)
  have HS := Lib.hid HS
  obtain ⟨q, hq⟩ : ∃ q, c - n = q := ⟨_, rfl⟩
  have hcut : cutA (some ⟨g, 0, none⟩) c n 10 = some ⟨g, n * 10, none⟩ := by
    unfold cutA
    rw [if_neg (by omega)]
    simp [addr_add]
  have HCUT := Lib.hid (And.intro hcut hq)
  have q1 : decide ((q : Int) < 2) = false := by simp; omega
  have hle2 : n ≤ c := by omega
  have hb1 : n * 10 + 10 ≤ (rowSL F ++ mkS2).length := by rw [List.length_append, hlen]; simp [rowSV]
  have hb2 : n * 10 + 10 + 10 ≤ (rowSL F ++ mkS2).length := by rw [List.length_append, hlen]; simp [rowSV]
  have hv1 : (((rowSL F ++ mkS2).drop (n * 10)).take 10).toArray = mkS := by rw [← hlen, List.drop_left]; rfl
  have hv2 : (((rowSL F ++ mkS2).drop (n * 10 + 10)).take 10).toArray = mkS := by
    rw [← hlen, ← List.drop_drop, List.drop_left]; rfl
  clear hcut HTF hl R hlen
  go_enter Try.func35, Try.ntmps35
  go_wp2_with (first
    | go_skip
    | ((with_reducible show wpList _ _ _ (_ :: _) _ _); (with_reducible apply wpl_boxRH); (· rfl); (· rfl); (· exact H); (clear H; intro px _ H); (simp only [Act.put, List.setIfInBounds_toArray, List.set_cons_zero, List.set_cons_succ]))
    | ((refine (HS.out _ _ H).mono ?_); clear H; rintro _ _ ⟨rfl, H⟩)
    | ((with_reducible show wpList _ _ _ (_ :: _) _ _); (with_reducible apply wpl_cutBoth slS); (· rfl); (· rfl); (· rfl); (· rfl); (· exact hle2); (· exact Nat.le_refl _); (· exact HCUT.out.1); (· exact HCUT.out.2); (· exact HCUT.out.2); (simp only [Act.put, List.setIfInBounds_toArray, List.set_cons_zero, List.set_cons_succ])))
  have hq2 : 2 ≤ q := by have := HCUT.out.2; omega
  have HT1 := Lib.hid (show ∀ w', Heap W (Cel px mkS 87 :: l) w' → Rd w' (some ⟨g, 0, none⟩) (rowSL F ++ mkS2) from fun w' h => HT.out _ w' (List.mem_cons_of_mem _ m) h)
  refine wp_region_H H (by kernel_rfl) (by kernel_rfl) ?_
  repeat (first | go_big_quiet_skip | (first | ((with_reducible apply wpQ_loadRdR0 rowSTy); (· rfl); (· rfl); (· exact HT1.out); (· exact hb1); (· decide); (· exact hv1); (simp only [Act.put, List.setIfInBounds_toArray, List.set_cons_zero, List.set_cons_succ])) | ((with_reducible apply wpQ_loadRdR0 rowSTy); (· rfl); (· rfl); (· exact HT1.out); (· exact hb2); (· decide); (· exact hv2); (simp only [Act.put, List.setIfInBounds_toArray, List.set_cons_zero, List.set_cons_succ])) | ((with_reducible apply wpQ_loadRH rowSTy); (· rfl); (· rfl); (· (repeat (first | (with_reducible exact List.mem_cons_self) | with_reducible apply List.mem_cons_of_mem))); (· (simp only [rowSA_sz, Nat.reduceAdd, Nat.reduceLeDiff, Nat.le_refl]; done)); (· with_reducible exact rowSA_all _); (simp only [Act.put, List.setIfInBounds_toArray, List.set_cons_zero, List.set_cons_succ])) | ((with_reducible apply wpQ_eqlS); (· rfl); (· rfl); (· rfl); (simp only [Act.put, List.setIfInBounds_toArray, List.set_cons_zero, List.set_cons_succ]))) | go_big_quiet_step (fail))
  refine wpQuiet_nil ?_
  clear H
  intro _ H
  go_wp2_with (go_skip)
  go_ret
  exact ⟨rfl, H.tail⟩
theorem leftSteps_H (a ea : Option Addr) (n c ec : Nat) (F : List RowS) (hl : F.length = n) (hn : n ≤ 10000) (hc : n + 2 ≤ c) (hm : c ≤ maxLen) (m : TwS a c n F ∈ l) (R : ∀ l' w', (∀ x ∈ l, x ∈ l') → Heap W l' w' → Rd w' ea (rowSL F)) :
    AnsH W l 20 #[.slice a n c, .slice ea n ec] (.bool true) := by
  intro w H
  have C := left_S a ea n c ec F hl hn hc hm m R
  clear hl hm m R
  go_enter Try.func20, Try.ntmps20
  go_wp2_with (first | go_skip | ((refine (C _ H).mono ?_); clear H; rintro _ _ ⟨rfl, H⟩))
  go_ret
  exact ⟨rfl, H⟩
end
end Go.Proofs.Ytjipelhcgglhhaa
