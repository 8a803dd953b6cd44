/- clients.Client: Take. -/
import Derived.Test.YtjipelhcgglhhaaCliCalls
import Derived.Defers
namespace Go.Proofs.Ytjipelhcgglhhaa
open Go.RowKit
set_option linter.unusedSimpArgs false
set_option linter.unusedVariables false

def letg (kind : Int) (frm : Int) (lto : Int) (term : Int) (index : Int) (mark : Int) (commit : Int) (yes : Bool) (entries : Value) (data : Value) (cid : Int) (cnum : Int) (steps : Value) (err : Int) (rerr : Int) (rat : Int) (got : Value) : Array Value := #[.int .u8 kind, .int .u8 frm, .int .u8 lto, .int .u64 term, .int .u64 index, .int .u64 mark, .int .u64 commit, .bool yes, entries, data, .int .u8 cid, .int .u64 cnum, steps, .int .i64 err, .int .i64 rerr, .int .i64 rat, got]
section
variable (kind : Int) (frm : Int) (lto : Int) (term : Int) (index : Int) (mark : Int) (commit : Int) (yes : Bool) (entries : Value) (data : Value) (cid : Int) (cnum : Int) (steps : Value) (err : Int) (rerr : Int) (rat : Int) (got : Value)
theorem letg_sz : (letg kind frm lto term index mark commit yes entries data cid cnum steps err rerr rat got).size = 17 := rfl
theorem letg_g0 : (letg kind frm lto term index mark commit yes entries data cid cnum steps err rerr rat got)[0]? = some (.int .u8 kind) := rfl
theorem letg_s0 (v : Int) : (letg kind frm lto term index mark commit yes entries data cid cnum steps err rerr rat got).setIfInBounds 0 (.int .u8 v) = letg v frm lto term index mark commit yes entries data cid cnum steps err rerr rat got := rfl
theorem letg_g1 : (letg kind frm lto term index mark commit yes entries data cid cnum steps err rerr rat got)[1]? = some (.int .u8 frm) := rfl
theorem letg_s1 (v : Int) : (letg kind frm lto term index mark commit yes entries data cid cnum steps err rerr rat got).setIfInBounds 1 (.int .u8 v) = letg kind v lto term index mark commit yes entries data cid cnum steps err rerr rat got := rfl
theorem letg_g2 : (letg kind frm lto term index mark commit yes entries data cid cnum steps err rerr rat got)[2]? = some (.int .u8 lto) := rfl
theorem letg_s2 (v : Int) : (letg kind frm lto term index mark commit yes entries data cid cnum steps err rerr rat got).setIfInBounds 2 (.int .u8 v) = letg kind frm v term index mark commit yes entries data cid cnum steps err rerr rat got := rfl
theorem letg_g3 : (letg kind frm lto term index mark commit yes entries data cid cnum steps err rerr rat got)[3]? = some (.int .u64 term) := rfl
theorem letg_s3 (v : Int) : (letg kind frm lto term index mark commit yes entries data cid cnum steps err rerr rat got).setIfInBounds 3 (.int .u64 v) = letg kind frm lto v index mark commit yes entries data cid cnum steps err rerr rat got := rfl
theorem letg_g4 : (letg kind frm lto term index mark commit yes entries data cid cnum steps err rerr rat got)[4]? = some (.int .u64 index) := rfl
theorem letg_s4 (v : Int) : (letg kind frm lto term index mark commit yes entries data cid cnum steps err rerr rat got).setIfInBounds 4 (.int .u64 v) = letg kind frm lto term v mark commit yes entries data cid cnum steps err rerr rat got := rfl
theorem letg_g5 : (letg kind frm lto term index mark commit yes entries data cid cnum steps err rerr rat got)[5]? = some (.int .u64 mark) := rfl
theorem letg_s5 (v : Int) : (letg kind frm lto term index mark commit yes entries data cid cnum steps err rerr rat got).setIfInBounds 5 (.int .u64 v) = letg kind frm lto term index v commit yes entries data cid cnum steps err rerr rat got := rfl
theorem letg_g6 : (letg kind frm lto term index mark commit yes entries data cid cnum steps err rerr rat got)[6]? = some (.int .u64 commit) := rfl
theorem letg_s6 (v : Int) : (letg kind frm lto term index mark commit yes entries data cid cnum steps err rerr rat got).setIfInBounds 6 (.int .u64 v) = letg kind frm lto term index mark v yes entries data cid cnum steps err rerr rat got := rfl
theorem letg_g7 : (letg kind frm lto term index mark commit yes entries data cid cnum steps err rerr rat got)[7]? = some (.bool yes) := rfl
theorem letg_s7 (v : Bool) : (letg kind frm lto term index mark commit yes entries data cid cnum steps err rerr rat got).setIfInBounds 7 (.bool v) = letg kind frm lto term index mark commit v entries data cid cnum steps err rerr rat got := rfl
theorem letg_g8 : (letg kind frm lto term index mark commit yes entries data cid cnum steps err rerr rat got)[8]? = some (entries) := rfl
theorem letg_s8 (v : Value) : (letg kind frm lto term index mark commit yes entries data cid cnum steps err rerr rat got).setIfInBounds 8 (v) = letg kind frm lto term index mark commit yes v data cid cnum steps err rerr rat got := rfl
theorem letg_g9 : (letg kind frm lto term index mark commit yes entries data cid cnum steps err rerr rat got)[9]? = some (data) := rfl
theorem letg_s9 (v : Value) : (letg kind frm lto term index mark commit yes entries data cid cnum steps err rerr rat got).setIfInBounds 9 (v) = letg kind frm lto term index mark commit yes entries v cid cnum steps err rerr rat got := rfl
theorem letg_g10 : (letg kind frm lto term index mark commit yes entries data cid cnum steps err rerr rat got)[10]? = some (.int .u8 cid) := rfl
theorem letg_s10 (v : Int) : (letg kind frm lto term index mark commit yes entries data cid cnum steps err rerr rat got).setIfInBounds 10 (.int .u8 v) = letg kind frm lto term index mark commit yes entries data v cnum steps err rerr rat got := rfl
theorem letg_g11 : (letg kind frm lto term index mark commit yes entries data cid cnum steps err rerr rat got)[11]? = some (.int .u64 cnum) := rfl
theorem letg_s11 (v : Int) : (letg kind frm lto term index mark commit yes entries data cid cnum steps err rerr rat got).setIfInBounds 11 (.int .u64 v) = letg kind frm lto term index mark commit yes entries data cid v steps err rerr rat got := rfl
theorem letg_g12 : (letg kind frm lto term index mark commit yes entries data cid cnum steps err rerr rat got)[12]? = some (steps) := rfl
theorem letg_s12 (v : Value) : (letg kind frm lto term index mark commit yes entries data cid cnum steps err rerr rat got).setIfInBounds 12 (v) = letg kind frm lto term index mark commit yes entries data cid cnum v err rerr rat got := rfl
theorem letg_g13 : (letg kind frm lto term index mark commit yes entries data cid cnum steps err rerr rat got)[13]? = some (.int .i64 err) := rfl
theorem letg_s13 (v : Int) : (letg kind frm lto term index mark commit yes entries data cid cnum steps err rerr rat got).setIfInBounds 13 (.int .i64 v) = letg kind frm lto term index mark commit yes entries data cid cnum steps v rerr rat got := rfl
theorem letg_g14 : (letg kind frm lto term index mark commit yes entries data cid cnum steps err rerr rat got)[14]? = some (.int .i64 rerr) := rfl
theorem letg_s14 (v : Int) : (letg kind frm lto term index mark commit yes entries data cid cnum steps err rerr rat got).setIfInBounds 14 (.int .i64 v) = letg kind frm lto term index mark commit yes entries data cid cnum steps err v rat got := rfl
theorem letg_g15 : (letg kind frm lto term index mark commit yes entries data cid cnum steps err rerr rat got)[15]? = some (.int .i64 rat) := rfl
theorem letg_s15 (v : Int) : (letg kind frm lto term index mark commit yes entries data cid cnum steps err rerr rat got).setIfInBounds 15 (.int .i64 v) = letg kind frm lto term index mark commit yes entries data cid cnum steps err rerr v got := rfl
theorem letg_g16 : (letg kind frm lto term index mark commit yes entries data cid cnum steps err rerr rat got)[16]? = some (got) := rfl
theorem letg_s16 (v : Value) : (letg kind frm lto term index mark commit yes entries data cid cnum steps err rerr rat got).setIfInBounds 16 (v) = letg kind frm lto term index mark commit yes entries data cid cnum steps err rerr rat v := rfl
end
def rep (rerr : Int) (rat : Int) (got : Value) : Array Value := #[.int .i64 rerr, .int .i64 rat, got]
section
variable (rerr : Int) (rat : Int) (got : Value)
theorem rep_sz : (rep rerr rat got).size = 3 := rfl
theorem rep_g0 : (rep rerr rat got)[0]? = some (.int .i64 rerr) := rfl
theorem rep_s0 (v : Int) : (rep rerr rat got).setIfInBounds 0 (.int .i64 v) = rep v rat got := rfl
theorem rep_g1 : (rep rerr rat got)[1]? = some (.int .i64 rat) := rfl
theorem rep_s1 (v : Int) : (rep rerr rat got).setIfInBounds 1 (.int .i64 v) = rep rerr v got := rfl
theorem rep_g2 : (rep rerr rat got)[2]? = some (got) := rfl
theorem rep_s2 (v : Value) : (rep rerr rat got).setIfInBounds 2 (v) = rep rerr rat v := rfl
end
def one (v : Value) : Array Value := #[v]
section
variable (v : Value)
theorem one_sz : (one v).size = 1 := rfl
theorem one_g0 : (one v)[0]? = some (v) := rfl
theorem one_s0 (v : Value) : (one v).setIfInBounds 0 (v) = one v := rfl
end
theorem row_rep : RowTy 34 3 (rep 0 0 (.slice none 0 0)) := ⟨⟨_, Try.underlying34, rfl⟩, by kernel_rfl, by kernel_rfl⟩
theorem rep_all (a b : Int) (g : Value) : (rep a b g).extract 0 (0 + 3) = rep a b g := by simp [rep]
theorem rep_cells (a b : Int) (p : Option Addr) (n c : Nat) : Cells 3 (rep a b (.slice p n c)) := by
  refine ⟨rfl, ?_⟩
  simp [rep, Value.oneCell']
theorem rep_splice (a b c d : Int) (g h : Value) : splice (rep a b g) 0 (rep c d h) = rep c d h := splice_all rfl
theorem cell_kind : CellTy 25 := ⟨⟨_, Try.underlying25, rfl⟩, by kernel_rfl⟩
theorem cell_errno : CellTy 31 := ⟨⟨_, Try.underlying31, rfl⟩, by kernel_rfl⟩
theorem cell_pcli : CellTy 46 := ⟨⟨_, Try.underlying46, rfl⟩, by kernel_rfl⟩
theorem cell_gots : CellTy 32 := ⟨⟨_, Try.underlying32, rfl⟩, by kernel_rfl⟩

section
variable {W w : World} {l : List Thing}
set_option maxRecDepth 100000
set_option maxHeartbeats 1000000
theorem cloneG_nil : Ans 31 #[.slice none 0 0] (.slice none 0 0) := by
  intro w
  have e1 : ∀ wx, (binOp .eql 32 (.slice none 0 0) (.slice none 0 0)).run Try.prog wx = .ok (.bool true) wx := fun wx => Lib.run_eql_slice_nil_nil wx 0 0 Try.underlying32
  go_enter Try.func31, Try.ntmps31
  go_wp2_with fail
  go_ret
  exact ⟨rfl, (by repeat (first | exact Ext.refl _ | refine Ext.alloc ?_ _ | refine Ext.ext ?_ _ | refine Ext.drew ?_))⟩
theorem clipG_nil : Ans 30 #[.slice none 0 0] (.slice none 0 0) := by
  intro w
  go_enter Try.func30, Try.ntmps30
  go_wp2
  go_ret
  exact ⟨rfl, (by repeat (first | exact Ext.refl _ | refine Ext.alloc ?_ _ | refine Ext.ext ?_ _ | refine Ext.drew ?_))⟩
theorem letg_rep (kind frm lto term index mark commit : Int) (yes : Bool) (entries data : Value) (cid cnum : Int) (steps : Value) (err rerr rat : Int) (got : Value) : (letg kind frm lto term index mark commit yes entries data cid cnum steps err rerr rat got).extract 14 (14 + 3) = rep rerr rat got := by simp [letg, rep]
theorem row_letg : RowTy 36 17 (letg 0 0 0 0 0 0 0 false (.slice none 0 0) (.slice none 0 0) 0 0 (.slice none 0 0) 0 0 0 (.slice none 0 0)) := ⟨⟨_, Try.underlying36, rfl⟩, by kernel_rfl, by kernel_rfl⟩
section
variable (kind frm lto term index mark commit : Int) (yes : Bool) (entries data : Value) (cid cnum : Int) (steps : Value) (err rerr rat : Int) (got : Value)
theorem letg_all : (letg kind frm lto term index mark commit yes entries data cid cnum steps err rerr rat got).extract 0 (0 + 17) = letg kind frm lto term index mark commit yes entries data cid cnum steps err rerr rat got := by simp [letg]
theorem letg_splice (c : Array Value) (h : c.size = 17) : splice c 0 (letg kind frm lto term index mark commit yes entries data cid cnum steps err rerr rat got) = letg kind frm lto term index mark commit yes entries data cid cnum steps err rerr rat got := splice_all (by rw [h]; rfl)
theorem letg_put (c : Array Value) (h : c.size = 17) : splice c 0 #[.int .u8 kind, .int .u8 frm, .int .u8 lto, .int .u64 term, .int .u64 index, .int .u64 mark, .int .u64 commit, .bool yes, entries, data, .int .u8 cid, .int .u64 cnum, steps, .int .i64 err, .int .i64 rerr, .int .i64 rat, got] = letg kind frm lto term index mark commit yes entries data cid cnum steps err rerr rat got := splice_all (by rw [h]; rfl)
theorem letg_cells0 : Cells 17 (letg kind frm lto term index mark commit yes (.slice none 0 0) (.slice none 0 0) cid cnum (.slice none 0 0) err rerr rat (.slice none 0 0)) := by
  refine ⟨rfl, ?_⟩
  simp [letg, Value.oneCell']
theorem letg_cells1 : Cells 17 #[.int .u8 kind, .int .u8 frm, .int .u8 lto, .int .u64 term, .int .u64 index, .int .u64 mark, .int .u64 commit, .bool yes, .slice none 0 0, .slice none 0 0, .int .u8 cid, .int .u64 cnum, .slice none 0 0, .int .i64 err, .int .i64 rerr, .int .i64 rat, .slice none 0 0] := letg_cells0 ..
end
/-- No open call. -/
abbrev opz : Array Value := #[.int .u8 0, .int .u8 0, .int .u8 0, .int .u64 0, .int .u64 0, .int .u64 0, .int .u64 0, .bool false, .slice none 0 0, .slice none 0 0, .int .u8 0, .int .u64 0, .slice none 0 0, .int .i64 0, .int .i64 0, .int .i64 0, .slice none 0 0, .bool false]
theorem opz_cells : Cells 18 opz := ⟨rfl, by simp [Value.oneCell']⟩
theorem cli_opz (id n to num waits kind frm lto cid cnum : Int) (steps : Value) (is : Bool) :
    splice (cli id n to num waits kind frm lto cid cnum steps is) 5 opz = cli id n to num waits 0 0 0 0 0 (.slice none 0 0) false := by
  simp [splice, cli]
theorem close_H (p py : Nat) (id n to num waits k0 f0 t0 c0 n0 : Int) (s0 : Value) (is : Bool) (u : FrameMode) (m : Cel py (one (.pointer (some ⟨p, 0, none⟩))) 46 ∈ l)
    (H : Heap W l w) {l' : List Thing} (m2 : Cel p (cli id n to num waits k0 f0 t0 c0 n0 s0 is) 45 ∈ l) (r : Repl l (Cel p (cli id n to num waits k0 f0 t0 c0 n0 s0 is) 45) (Cel p (cli id n to num waits 0 0 0 0 0 (.slice none 0 0) false) 45) l') :
    CallsD Try.prog 29 #[.pointer (some ⟨py, 0, none⟩)] u w fun e u' w' => u' = u ∧ (e = .returned (.tuple #[]) ∧ Heap W l' w') := by
  go_enter_d Try.func29, Try.ntmps29
  go_wp2_with (first
    | ((with_reducible show wpList _ _ _ (_ :: _) _ _); (with_reducible apply wpl_loadCH); (· exact cell_pcli); (· rfl); (· rfl); (· exact H); (· exact m); (· (with_reducible first | exact one_g0 ..)); (simp only [Act.put, List.setIfInBounds_toArray, List.set_cons_zero, List.set_cons_succ]))
    | ((with_reducible show wpList _ _ _ (_ :: _) _ _); (with_reducible apply wpl_storeRH row_open); (· rfl); (· rfl); (· rfl); (· with_reducible exact opz_cells); (· exact H); (· exact m2); (· (simp only [cli_sz, Nat.reduceAdd, Nat.reduceLeDiff, Nat.le_refl]; done)); (· with_reducible exact cli_opz ..); (· exact r); (clear H; intro _ H); (simp only [Act.put, List.setIfInBounds_toArray, List.set_cons_zero, List.set_cons_succ])))
  go_end0
  exact ⟨rfl, H⟩
theorem take_done (p : Nat) (id n to num waits k0 g0 t0 c0 n0 : Int) (s0 : Value) (frm term index mark commit : Int) (yes : Bool) (entries data : Value) (steps : Value) (rerr rat : Int)
    (hn : decide (0 < n) = true) (hid : 0 ≤ id ∧ id ≤ 8) (hf : 0 ≤ frm ∧ frm ≤ 255) (e6 : decide (frm < 1) = false) (e7 : decide (n < frm) = false) (H : Heap W (Cli p id n to num waits k0 g0 t0 c0 n0 s0 true :: l) w) :
    Calls Try.prog 9 #[.pointer (some ⟨p, 0, none⟩), .agg (letg 7 frm (100 + id) term index mark commit yes entries data id num steps 0 rerr rat (.slice none 0 0))] w fun e w' =>
      e = .returned (.tuple #[.agg (rep rerr rat (.slice none 0 0)), .bool true, .slice none 0 0]) ∧ Heap W (Cli p id n to num waits 0 0 0 0 0 (.slice none 0 0) false :: l) w' := by
  have hw : IntKind.u8.wrap (100 + id) = 100 + id := IntWalk.u8_in _ (by omega)
  have hw1 : 0 ≤ 100 + id := by omega
  have hw2 : 100 + id ≤ 255 := by omega
  have f0 : 0 ≤ frm := by omega
  have f1 : frm ≤ 255 := by omega
  have c1 := cloneG_nil
  have c2 := clipG_nil
  have hmf : ∀ (fn : Fn) (first cap : Array Value) (w : World), (Instr.makeFunc fn first cap).run Try.prog w = .ok (.func fn first cap) w := fun _ _ _ _ => rfl
  clear hid hf
  unfold Cli at *
  go_enter_defers Try.func9, Try.ntmps9
  go_wp2_with (first
    | go_skip
    | ((with_reducible show wpList _ _ _ (_ :: _) _ _); (with_reducible apply wpl_boxRH); (· rfl); (· rfl); (· exact H); (clear H; intro px _ H); (simp only [Act.put, List.setIfInBounds_toArray, List.set_cons_zero, List.set_cons_succ]))
    | ((with_reducible show wpList _ _ _ (_ :: _) _ _); (with_reducible apply wpl_boxPH); (· rfl); (· rfl); (· exact H); (clear H; intro py _ H); (simp only [Act.put, List.setIfInBounds_toArray, List.set_cons_zero, List.set_cons_succ]))
    | ((with_reducible show wpList _ _ _ (_ :: _) _ _); (with_reducible apply wpl_allocRH row_rep); (· rfl); (· exact H); (clear H; intro pz _ H); (simp only [Act.put, List.setIfInBounds_toArray, List.set_cons_zero, List.set_cons_succ])))
  change Heap _ (_ :: _ :: Cel py (one _) _ :: _) _ at H
  refine wp_region_H H (by kernel_rfl) (by kernel_rfl) ?_
  repeat (first | go_big_quiet_skip | ((with_reducible apply wpQ_loadCH); (· first | exact cell_b8 | exact cell_u64 | exact cell_i64 | exact cell_kind | exact cell_pcli); (· rfl); (· rfl); (· (repeat (first | (with_reducible exact List.mem_cons_self) | with_reducible apply List.mem_cons_of_mem))); (· (with_reducible first | exact cli_g0 .. | exact cli_g1 .. | exact cli_g2 .. | exact cli_g3 .. | exact cli_g4 .. | exact cli_g5 .. | exact cli_g6 .. | exact cli_g7 .. | exact cli_g8 .. | exact cli_g9 .. | exact cli_g10 .. | exact cli_g11 .. | exact cli_g12 .. | exact cli_g13 .. | exact cli_g14 .. | exact cli_g15 .. | exact cli_g16 .. | exact cli_g17 .. | exact cli_g18 .. | exact cli_g19 .. | exact cli_g20 .. | exact cli_g21 .. | exact cli_g22 .. | exact letg_g0 .. | exact letg_g1 .. | exact letg_g2 .. | exact letg_g3 .. | exact letg_g4 .. | exact letg_g5 .. | exact letg_g6 .. | exact letg_g7 .. | exact letg_g8 .. | exact letg_g9 .. | exact letg_g10 .. | exact letg_g11 .. | exact letg_g12 .. | exact letg_g13 .. | exact letg_g14 .. | exact letg_g15 .. | exact letg_g16 .. | exact one_g0 ..)); (simp only [Act.put, List.setIfInBounds_toArray, List.set_cons_zero, List.set_cons_succ])) | go_big_quiet_step (exact (open_H (List.mem_cons_of_mem _ (List.mem_cons_of_mem _ (List.mem_cons_of_mem _ List.mem_cons_self))) hn).quiet))
  refine wpQuiet_nil ?_
  clear H
  intro _ H
  go_wp2_with (first
    | go_skip
    | ((with_reducible refine Ans.callH (by assumption) H ?_); clear H; intro _ H)
    | ((with_reducible show wpList _ _ _ (_ :: _) _ _); (with_reducible apply wpl_loadCH); (· first | exact cell_errno | exact cell_gots); (· rfl); (· rfl); (· exact H); (· (repeat (first | (with_reducible exact List.mem_cons_self) | with_reducible apply List.mem_cons_of_mem))); (· (with_reducible first | exact letg_g0 .. | exact letg_g1 .. | exact letg_g2 .. | exact letg_g3 .. | exact letg_g4 .. | exact letg_g5 .. | exact letg_g6 .. | exact letg_g7 .. | exact letg_g8 .. | exact letg_g9 .. | exact letg_g10 .. | exact letg_g11 .. | exact letg_g12 .. | exact letg_g13 .. | exact letg_g14 .. | exact letg_g15 .. | exact letg_g16 .. | exact rep_g0 .. | exact rep_g1 .. | exact rep_g2 ..)); (simp only [Act.put, List.setIfInBounds_toArray, List.set_cons_zero, List.set_cons_succ]))
    | (first | ((with_reducible show wpList _ _ _ (_ :: _) _ _); (with_reducible apply wpl_storeIH); (· exact cell_gots); (· rfl); (· rfl); (· rfl); (· exact H); (· (repeat (first | (with_reducible exact List.mem_cons_self) | with_reducible apply List.mem_cons_of_mem))); (· (simp only [rep_sz, Nat.reduceLT]; done)); (· (with_reducible first | exact rep_s0 .. | exact rep_s1 .. | exact rep_s2 ..)); (· (repeat (first | (with_reducible exact Repl.here) | with_reducible apply Repl.there))); (clear H; intro _ H); (simp only [Act.put, List.setIfInBounds_toArray, List.set_cons_zero, List.set_cons_succ])) | ((with_reducible show wpList _ _ _ (_ :: _) _ _); (with_reducible apply wpl_storeBH); (· exact cell_gots); (· rfl); (· rfl); (· rfl); (· exact H); (· (repeat (first | (with_reducible exact List.mem_cons_self) | with_reducible apply List.mem_cons_of_mem))); (· (simp only [rep_sz, Nat.reduceLT]; done)); (· (with_reducible first | exact rep_s0 .. | exact rep_s1 .. | exact rep_s2 ..)); (· (repeat (first | (with_reducible exact Repl.here) | with_reducible apply Repl.there))); (clear H; intro _ H); (simp only [Act.put, List.setIfInBounds_toArray, List.set_cons_zero, List.set_cons_succ])) | ((with_reducible show wpList _ _ _ (_ :: _) _ _); (with_reducible apply wpl_storeSH); (· exact cell_gots); (· rfl); (· rfl); (· rfl); (· exact H); (· (repeat (first | (with_reducible exact List.mem_cons_self) | with_reducible apply List.mem_cons_of_mem))); (· (simp only [rep_sz, Nat.reduceLT]; done)); (· (with_reducible first | exact rep_s0 .. | exact rep_s1 .. | exact rep_s2 ..)); (· (repeat (first | (with_reducible exact Repl.here) | with_reducible apply Repl.there))); (clear H; intro _ H); (simp only [Act.put, List.setIfInBounds_toArray, List.set_cons_zero, List.set_cons_succ])) | ((with_reducible show wpList _ _ _ (_ :: _) _ _); (with_reducible apply wpl_storePH); (· exact cell_gots); (· rfl); (· rfl); (· rfl); (· exact H); (· (repeat (first | (with_reducible exact List.mem_cons_self) | with_reducible apply List.mem_cons_of_mem))); (· (simp only [rep_sz, Nat.reduceLT]; done)); (· (with_reducible first | exact rep_s0 .. | exact rep_s1 .. | exact rep_s2 ..)); (· (repeat (first | (with_reducible exact Repl.here) | with_reducible apply Repl.there))); (clear H; intro _ H); (simp only [Act.put, List.setIfInBounds_toArray, List.set_cons_zero, List.set_cons_succ])))
    | ((with_reducible show wpList _ _ _ (_ :: _) _ _); (with_reducible apply wpl_loadRH row_rep); (· rfl); (· rfl); (· exact H); (· (repeat (first | (with_reducible exact List.mem_cons_self) | with_reducible apply List.mem_cons_of_mem))); (· (simp only [rep_sz, letg_sz, Nat.reduceAdd, Nat.reduceLeDiff, Nat.le_refl]; done)); (· with_reducible first | exact rep_all .. | exact letg_rep ..); (simp only [Act.put, List.setIfInBounds_toArray, List.set_cons_zero, List.set_cons_succ]))
    | ((with_reducible show wpList _ _ _ (_ :: _) _ _); (with_reducible apply wpl_storeRH row_rep); (· rfl); (· rfl); (· rfl); (· with_reducible exact rep_cells ..); (· exact H); (· (repeat (first | (with_reducible exact List.mem_cons_self) | with_reducible apply List.mem_cons_of_mem))); (· (simp only [rep_sz, Nat.reduceAdd, Nat.reduceLeDiff, Nat.le_refl]; done)); (· with_reducible exact rep_splice ..); (· (repeat (first | (with_reducible exact Repl.here) | with_reducible apply Repl.there))); (clear H; intro _ H); (simp only [Act.put, List.setIfInBounds_toArray, List.set_cons_zero, List.set_cons_succ])))
  refine leaves_cons (f := 29) (args := #[.pointer (some ⟨py, 0, none⟩)]) (by simp) (by simp [go_sem]) ?_
  have C := close_H p py id n to num waits k0 g0 t0 c0 n0 s0 true .returning (by (repeat (first | (with_reducible exact List.mem_cons_self) | with_reducible apply List.mem_cons_of_mem))) H (by (repeat (first | (with_reducible exact List.mem_cons_self) | with_reducible apply List.mem_cons_of_mem))) (by (repeat (first | (with_reducible exact Repl.here) | with_reducible apply Repl.there)))
  clear H
  refine C.mono ?_
  clear C
  rintro e u' w'' ⟨rfl, rfl, H⟩
  exact ⟨_, results_row3H row_rep rfl rfl H List.mem_cons_self rfl rfl rfl, rfl, H.tail.tail.tail⟩
end
end Go.Proofs.Ytjipelhcgglhhaa
