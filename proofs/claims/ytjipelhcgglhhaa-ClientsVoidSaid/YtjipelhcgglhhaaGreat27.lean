/- countinghouselaw23.Great, countinghouselaw27.great: they return. -/
import Derived.Test.YtjipelhcgglhhaaCliTake
import Derived.Test.YtjipelhcgglhhaaOpen27
namespace Go.Proofs.Ytjipelhcgglhhaa
open Go.RowKit
set_option linter.unusedSimpArgs false
set_option linter.unusedVariables false
theorem cell_entries : CellTy 27 := ⟨⟨_, Try.underlying27, rfl⟩, by kernel_rfl⟩
theorem cell_bytes : CellTy 28 := ⟨⟨_, Try.underlying28, rfl⟩, by kernel_rfl⟩
/-- Entries that can be read: each one's steps have a length. -/
def EntriesOk (w : World) (ea : Option Addr) (en : Nat) : Prop := en = 0 ∨ ∃ b o, ea = some ⟨b, o, none⟩ ∧ b < w.heap.size ∧ ∀ i, i < en → ∃ a n c, w.cell? ⟨b, o + i * 5 + 4, none⟩ = some (.slice a n c) ∧ n ≤ 9223372036854775807
/-- It answers yes or no, and the things lie as they lay. -/
def SomeB (W : World) (l : List Thing) (e : Ending) (w' : World) : Prop := ∃ b, e = .returned (.bool b) ∧ Heap W l w'
theorem SomeB.mk {W : World} {l : List Thing} {b : Bool} {w' : World} (h : Heap W l w') : SomeB W l (.returned (.bool b)) w' := ⟨b, rfl, h⟩
section
variable {W w : World} {l : List Thing}
set_option maxRecDepth 100000
set_option maxHeartbeats 1000000
theorem wpl_loadCell {ops : Array Oper} {rest : List Oper} {a : Act} {Q : Exit → Act → World → Prop} {T : TypeId} {dst : Option Tmp} {ty : TypeId} {pos : String} {after : Array Edge} {guard : Option (Nat × Bool)} {x : Operand} {b off : Nat} (CT : CellTy T) (hw : Region.wanted ⟨dst, .load T x, ty, pos, after, guard⟩ (yielded ops a.tmps) = true) (hx : a.eval x = .pointer (some ⟨b, off, none⟩))
    {v : Value} (hc : w.cell? ⟨b, off, none⟩ = some v) (h : wpList Try.prog ops Q rest (a.put dst v) w) : wpList Try.prog ops Q (⟨dst, .load T x, ty, pos, after, guard⟩ :: rest) a w := by
  simp only [World.cell?, if_true] at hc
  cases hb : w.heap[b]? with
  | none => rw [hb] at hc; cases hc
  | some o =>
    rw [hb] at hc
    cases o <;> first | (cases hc; done) | skip
    rename_i cs t f
    exact wpl_loadC CT hw hx hb hc h
theorem ext_cell_old (H : Heap W l w) {b o : Nat} (hb : b < W.heap.size) : w.cell? ⟨b, o, none⟩ = W.cell? ⟨b, o, none⟩ := H.low.cell (p := ⟨b, o, none⟩) hb
theorem great23_H (kind frm lto term index mark commit : Int) (yes : Bool) (ea : Option Addr) (en ec : Nat) (da : Option Addr) (dn dc : Nat) (cid cnum : Int) (sa : Option Addr) (sn sc : Nat) (err rerr rat : Int) (ga : Option Addr) (gn gc : Nat)
    (b1 : en ≤ 9223372036854775807) (b2 : dn ≤ 9223372036854775807) (b3 : sn ≤ 9223372036854775807) (b4 : gn ≤ 9223372036854775807) (he : EntriesOk W ea en) (H : Heap W l w) :
    Calls Try.prog 25 #[.agg (letg kind frm lto term index mark commit yes (.slice ea en ec) (.slice da dn dc) cid cnum (.slice sa sn sc) err rerr rat (.slice ga gn gc))] w (SomeB W l) := by
  have HE := Lib.hid he
  clear he
  go_enter Try.func25, Try.ntmps25
  go_wp2_with (first
    | go_skip
    | ((with_reducible show wpList _ _ _ (_ :: _) _ _); (with_reducible apply wpl_boxRH); (· rfl); (· rfl); (· exact H); (clear H; intro px _ H); (simp only [Act.put, List.setIfInBounds_toArray, List.set_cons_zero, List.set_cons_succ]))
    | ((with_reducible show wpList _ _ _ (_ :: _) _ _); (with_reducible apply wpl_loadCH); (· first | exact cell_bytes | exact cell_steps | exact cell_gots); (· rfl); (· rfl); (· exact H); (· (repeat (first | (with_reducible exact List.mem_cons_self) | with_reducible apply List.mem_cons_of_mem))); (· (with_reducible first | exact letg_g0 .. | exact letg_g1 .. | exact letg_g2 .. | exact letg_g3 .. | exact letg_g4 .. | exact letg_g5 .. | exact letg_g6 .. | exact letg_g7 .. | exact letg_g8 .. | exact letg_g9 .. | exact letg_g10 .. | exact letg_g11 .. | exact letg_g12 .. | exact letg_g13 .. | exact letg_g14 .. | exact letg_g15 .. | exact letg_g16 ..)); (simp only [Act.put, List.setIfInBounds_toArray, List.set_cons_zero, List.set_cons_succ])))
  go_loopw [3, 4] (fun n i wr => ∃ (k : Nat) (s : Int), k ≤ en ∧ i = .int .i64 k ∧ n = .int .i64 s ∧ Heap W (Cel px (letg kind frm lto term index mark commit yes (.slice ea en ec) (.slice da dn dc) cid cnum (.slice sa sn sc) err rerr rat (.slice ga gn gc)) 36 :: l) wr) (fun _ i _ => en - (intOf i).toNat)
  case atStart => exact ⟨0, _, Nat.zero_le _, rfl, rfl, H⟩
  case round =>
    obtain ⟨k, s, hk, rfl, rfl, H'⟩ := hrel
    clear H
    have H := H'
    clear H'
    by_cases hgo : k < en ∧ s < 70000
    · obtain ⟨hlt, hs⟩ := hgo
      obtain h0 | ⟨b, o, rfl, hb, he⟩ := HE.out
      · omega
      obtain ⟨a, n, c, hc, hn⟩ := he k hlt
      rw [← ext_cell_old H hb] at hc
      have HC := Lib.hid hc
      clear hc he
      go_wp2_with (first
        | go_skip
        | ((with_reducible show wpList _ _ _ (_ :: _) _ _); (with_reducible apply wpl_loadCH); (· first | exact cell_entries); (· rfl); (· rfl); (· exact H); (· (repeat (first | (with_reducible exact List.mem_cons_self) | with_reducible apply List.mem_cons_of_mem))); (· (with_reducible first | exact letg_g0 .. | exact letg_g1 .. | exact letg_g2 .. | exact letg_g3 .. | exact letg_g4 .. | exact letg_g5 .. | exact letg_g6 .. | exact letg_g7 .. | exact letg_g8 .. | exact letg_g9 .. | exact letg_g10 .. | exact letg_g11 .. | exact letg_g12 .. | exact letg_g13 .. | exact letg_g14 .. | exact letg_g15 .. | exact letg_g16 ..)); (simp only [Act.put, List.setIfInBounds_toArray, List.set_cons_zero, List.set_cons_succ]))
        | ((with_reducible show wpList _ _ _ (_ :: _) _ _); (with_reducible apply wpl_loadCell); (· exact cell_steps); (· rfl); (· rfl); (· exact HC.out); (simp only [Act.put, List.setIfInBounds_toArray, List.set_cons_zero, List.set_cons_succ])))
      go_roundw
      case rel => exact ⟨k + 1, _, by omega, by go_num, rfl, H⟩
      case measure => simp [intOf]; omega
    · by_cases hlt : k < en
      · have hs : ¬ s < 70000 := fun h => hgo ⟨hlt, h⟩
        clear hgo
        by_cases h6 : 66000 < s
        · go_wp2_with (first | go_skip | ((with_reducible show wpList _ _ _ (_ :: _) _ _); (with_reducible apply wpl_loadCH); (· first | exact cell_entries); (· rfl); (· rfl); (· exact H); (· (repeat (first | (with_reducible exact List.mem_cons_self) | with_reducible apply List.mem_cons_of_mem))); (· (with_reducible first | exact letg_g0 .. | exact letg_g1 .. | exact letg_g2 .. | exact letg_g3 .. | exact letg_g4 .. | exact letg_g5 .. | exact letg_g6 .. | exact letg_g7 .. | exact letg_g8 .. | exact letg_g9 .. | exact letg_g10 .. | exact letg_g11 .. | exact letg_g12 .. | exact letg_g13 .. | exact letg_g14 .. | exact letg_g15 .. | exact letg_g16 ..)); (simp only [Act.put, List.setIfInBounds_toArray, List.set_cons_zero, List.set_cons_succ])))
          go_ret
          exact SomeB.mk H.tail
        · omega
      · clear hgo
        by_cases h6 : 66000 < s
        · go_wp2_with (first | go_skip | ((with_reducible show wpList _ _ _ (_ :: _) _ _); (with_reducible apply wpl_loadCH); (· first | exact cell_entries); (· rfl); (· rfl); (· exact H); (· (repeat (first | (with_reducible exact List.mem_cons_self) | with_reducible apply List.mem_cons_of_mem))); (· (with_reducible first | exact letg_g0 .. | exact letg_g1 .. | exact letg_g2 .. | exact letg_g3 .. | exact letg_g4 .. | exact letg_g5 .. | exact letg_g6 .. | exact letg_g7 .. | exact letg_g8 .. | exact letg_g9 .. | exact letg_g10 .. | exact letg_g11 .. | exact letg_g12 .. | exact letg_g13 .. | exact letg_g14 .. | exact letg_g15 .. | exact letg_g16 ..)); (simp only [Act.put, List.setIfInBounds_toArray, List.set_cons_zero, List.set_cons_succ])))
          go_ret
          exact SomeB.mk H.tail
        · go_wp2_with (first | go_skip | ((with_reducible show wpList _ _ _ (_ :: _) _ _); (with_reducible apply wpl_loadCH); (· first | exact cell_entries); (· rfl); (· rfl); (· exact H); (· (repeat (first | (with_reducible exact List.mem_cons_self) | with_reducible apply List.mem_cons_of_mem))); (· (with_reducible first | exact letg_g0 .. | exact letg_g1 .. | exact letg_g2 .. | exact letg_g3 .. | exact letg_g4 .. | exact letg_g5 .. | exact letg_g6 .. | exact letg_g7 .. | exact letg_g8 .. | exact letg_g9 .. | exact letg_g10 .. | exact letg_g11 .. | exact letg_g12 .. | exact letg_g13 .. | exact letg_g14 .. | exact letg_g15 .. | exact letg_g16 ..)); (simp only [Act.put, List.setIfInBounds_toArray, List.set_cons_zero, List.set_cons_succ])))
          go_ret
          exact SomeB.mk H.tail
end
def act (kd : Int) (csteps : Value) (kind : Int) (frm : Int) (lto : Int) (term : Int) (index : Int) (mark : Int) (commit : Int) (yes : Bool) (entries : Value) (data : Value) (cid : Int) (cnum : Int) (steps : Value) (err : Int) (rerr : Int) (rat : Int) (got : Value) (near : Bool) : Array Value := #[.int .u8 kd, csteps, .int .u8 kind, .int .u8 frm, .int .u8 lto, .int .u64 term, .int .u64 index, .int .u64 mark, .int .u64 commit, .bool yes, entries, data, .int .u8 cid, .int .u64 cnum, steps, .int .i64 err, .int .i64 rerr, .int .i64 rat, got, .bool near]
section
variable (kd : Int) (csteps : Value) (kind : Int) (frm : Int) (lto : Int) (term : Int) (index : Int) (mark : Int) (commit : Int) (yes : Bool) (entries : Value) (data : Value) (cid : Int) (cnum : Int) (steps : Value) (err : Int) (rerr : Int) (rat : Int) (got : Value) (near : Bool)
theorem act_sz : (act kd csteps kind frm lto term index mark commit yes entries data cid cnum steps err rerr rat got near).size = 20 := rfl
theorem act_g0 : (act kd csteps kind frm lto term index mark commit yes entries data cid cnum steps err rerr rat got near)[0]? = some (.int .u8 kd) := rfl
theorem act_s0 (v : Int) : (act kd csteps kind frm lto term index mark commit yes entries data cid cnum steps err rerr rat got near).setIfInBounds 0 (.int .u8 v) = act v csteps kind frm lto term index mark commit yes entries data cid cnum steps err rerr rat got near := rfl
theorem act_g1 : (act kd csteps kind frm lto term index mark commit yes entries data cid cnum steps err rerr rat got near)[1]? = some (csteps) := rfl
theorem act_s1 (v : Value) : (act kd csteps kind frm lto term index mark commit yes entries data cid cnum steps err rerr rat got near).setIfInBounds 1 (v) = act kd v kind frm lto term index mark commit yes entries data cid cnum steps err rerr rat got near := rfl
theorem act_g2 : (act kd csteps kind frm lto term index mark commit yes entries data cid cnum steps err rerr rat got near)[2]? = some (.int .u8 kind) := rfl
theorem act_s2 (v : Int) : (act kd csteps kind frm lto term index mark commit yes entries data cid cnum steps err rerr rat got near).setIfInBounds 2 (.int .u8 v) = act kd csteps v frm lto term index mark commit yes entries data cid cnum steps err rerr rat got near := rfl
theorem act_g3 : (act kd csteps kind frm lto term index mark commit yes entries data cid cnum steps err rerr rat got near)[3]? = some (.int .u8 frm) := rfl
theorem act_s3 (v : Int) : (act kd csteps kind frm lto term index mark commit yes entries data cid cnum steps err rerr rat got near).setIfInBounds 3 (.int .u8 v) = act kd csteps kind v lto term index mark commit yes entries data cid cnum steps err rerr rat got near := rfl
theorem act_g4 : (act kd csteps kind frm lto term index mark commit yes entries data cid cnum steps err rerr rat got near)[4]? = some (.int .u8 lto) := rfl
theorem act_s4 (v : Int) : (act kd csteps kind frm lto term index mark commit yes entries data cid cnum steps err rerr rat got near).setIfInBounds 4 (.int .u8 v) = act kd csteps kind frm v term index mark commit yes entries data cid cnum steps err rerr rat got near := rfl
theorem act_g5 : (act kd csteps kind frm lto term index mark commit yes entries data cid cnum steps err rerr rat got near)[5]? = some (.int .u64 term) := rfl
theorem act_s5 (v : Int) : (act kd csteps kind frm lto term index mark commit yes entries data cid cnum steps err rerr rat got near).setIfInBounds 5 (.int .u64 v) = act kd csteps kind frm lto v index mark commit yes entries data cid cnum steps err rerr rat got near := rfl
theorem act_g6 : (act kd csteps kind frm lto term index mark commit yes entries data cid cnum steps err rerr rat got near)[6]? = some (.int .u64 index) := rfl
theorem act_s6 (v : Int) : (act kd csteps kind frm lto term index mark commit yes entries data cid cnum steps err rerr rat got near).setIfInBounds 6 (.int .u64 v) = act kd csteps kind frm lto term v mark commit yes entries data cid cnum steps err rerr rat got near := rfl
theorem act_g7 : (act kd csteps kind frm lto term index mark commit yes entries data cid cnum steps err rerr rat got near)[7]? = some (.int .u64 mark) := rfl
theorem act_s7 (v : Int) : (act kd csteps kind frm lto term index mark commit yes entries data cid cnum steps err rerr rat got near).setIfInBounds 7 (.int .u64 v) = act kd csteps kind frm lto term index v commit yes entries data cid cnum steps err rerr rat got near := rfl
theorem act_g8 : (act kd csteps kind frm lto term index mark commit yes entries data cid cnum steps err rerr rat got near)[8]? = some (.int .u64 commit) := rfl
theorem act_s8 (v : Int) : (act kd csteps kind frm lto term index mark commit yes entries data cid cnum steps err rerr rat got near).setIfInBounds 8 (.int .u64 v) = act kd csteps kind frm lto term index mark v yes entries data cid cnum steps err rerr rat got near := rfl
theorem act_g9 : (act kd csteps kind frm lto term index mark commit yes entries data cid cnum steps err rerr rat got near)[9]? = some (.bool yes) := rfl
theorem act_s9 (v : Bool) : (act kd csteps kind frm lto term index mark commit yes entries data cid cnum steps err rerr rat got near).setIfInBounds 9 (.bool v) = act kd csteps kind frm lto term index mark commit v entries data cid cnum steps err rerr rat got near := rfl
theorem act_g10 : (act kd csteps kind frm lto term index mark commit yes entries data cid cnum steps err rerr rat got near)[10]? = some (entries) := rfl
theorem act_s10 (v : Value) : (act kd csteps kind frm lto term index mark commit yes entries data cid cnum steps err rerr rat got near).setIfInBounds 10 (v) = act kd csteps kind frm lto term index mark commit yes v data cid cnum steps err rerr rat got near := rfl
theorem act_g11 : (act kd csteps kind frm lto term index mark commit yes entries data cid cnum steps err rerr rat got near)[11]? = some (data) := rfl
theorem act_s11 (v : Value) : (act kd csteps kind frm lto term index mark commit yes entries data cid cnum steps err rerr rat got near).setIfInBounds 11 (v) = act kd csteps kind frm lto term index mark commit yes entries v cid cnum steps err rerr rat got near := rfl
theorem act_g12 : (act kd csteps kind frm lto term index mark commit yes entries data cid cnum steps err rerr rat got near)[12]? = some (.int .u8 cid) := rfl
theorem act_s12 (v : Int) : (act kd csteps kind frm lto term index mark commit yes entries data cid cnum steps err rerr rat got near).setIfInBounds 12 (.int .u8 v) = act kd csteps kind frm lto term index mark commit yes entries data v cnum steps err rerr rat got near := rfl
theorem act_g13 : (act kd csteps kind frm lto term index mark commit yes entries data cid cnum steps err rerr rat got near)[13]? = some (.int .u64 cnum) := rfl
theorem act_s13 (v : Int) : (act kd csteps kind frm lto term index mark commit yes entries data cid cnum steps err rerr rat got near).setIfInBounds 13 (.int .u64 v) = act kd csteps kind frm lto term index mark commit yes entries data cid v steps err rerr rat got near := rfl
theorem act_g14 : (act kd csteps kind frm lto term index mark commit yes entries data cid cnum steps err rerr rat got near)[14]? = some (steps) := rfl
theorem act_s14 (v : Value) : (act kd csteps kind frm lto term index mark commit yes entries data cid cnum steps err rerr rat got near).setIfInBounds 14 (v) = act kd csteps kind frm lto term index mark commit yes entries data cid cnum v err rerr rat got near := rfl
theorem act_g15 : (act kd csteps kind frm lto term index mark commit yes entries data cid cnum steps err rerr rat got near)[15]? = some (.int .i64 err) := rfl
theorem act_s15 (v : Int) : (act kd csteps kind frm lto term index mark commit yes entries data cid cnum steps err rerr rat got near).setIfInBounds 15 (.int .i64 v) = act kd csteps kind frm lto term index mark commit yes entries data cid cnum steps v rerr rat got near := rfl
theorem act_g16 : (act kd csteps kind frm lto term index mark commit yes entries data cid cnum steps err rerr rat got near)[16]? = some (.int .i64 rerr) := rfl
theorem act_s16 (v : Int) : (act kd csteps kind frm lto term index mark commit yes entries data cid cnum steps err rerr rat got near).setIfInBounds 16 (.int .i64 v) = act kd csteps kind frm lto term index mark commit yes entries data cid cnum steps err v rat got near := rfl
theorem act_g17 : (act kd csteps kind frm lto term index mark commit yes entries data cid cnum steps err rerr rat got near)[17]? = some (.int .i64 rat) := rfl
theorem act_s17 (v : Int) : (act kd csteps kind frm lto term index mark commit yes entries data cid cnum steps err rerr rat got near).setIfInBounds 17 (.int .i64 v) = act kd csteps kind frm lto term index mark commit yes entries data cid cnum steps err rerr v got near := rfl
theorem act_g18 : (act kd csteps kind frm lto term index mark commit yes entries data cid cnum steps err rerr rat got near)[18]? = some (got) := rfl
theorem act_s18 (v : Value) : (act kd csteps kind frm lto term index mark commit yes entries data cid cnum steps err rerr rat got near).setIfInBounds 18 (v) = act kd csteps kind frm lto term index mark commit yes entries data cid cnum steps err rerr rat v near := rfl
theorem act_g19 : (act kd csteps kind frm lto term index mark commit yes entries data cid cnum steps err rerr rat got near)[19]? = some (.bool near) := rfl
theorem act_s19 (v : Bool) : (act kd csteps kind frm lto term index mark commit yes entries data cid cnum steps err rerr rat got near).setIfInBounds 19 (.bool v) = act kd csteps kind frm lto term index mark commit yes entries data cid cnum steps err rerr rat got v := rfl
end
section
variable (kd : Int) (csteps : Value) (kind frm lto term index mark commit : Int) (yes : Bool) (entries data : Value) (cid cnum : Int) (steps : Value) (err rerr rat : Int) (got : Value) (near : Bool)
theorem act_all : (act kd csteps kind frm lto term index mark commit yes entries data cid cnum steps err rerr rat got near).extract 0 (0 + 20) = act kd csteps kind frm lto term index mark commit yes entries data cid cnum steps err rerr rat got near := by simp [act]
theorem act_letg : (act kd csteps kind frm lto term index mark commit yes entries data cid cnum steps err rerr rat got near).extract 2 (2 + 17) = letg kind frm lto term index mark commit yes entries data cid cnum steps err rerr rat got := by simp [act, letg]
theorem act_cmd : (act kd csteps kind frm lto term index mark commit yes entries data cid cnum steps err rerr rat got near).extract 1 (1 + 1) = #[csteps] := by simp [act]
end
abbrev actz : Array Value := act 0 (.slice none 0 0) 0 0 0 0 0 0 0 false (.slice none 0 0) (.slice none 0 0) 0 0 (.slice none 0 0) 0 0 0 (.slice none 0 0) false
theorem row_act : RowTy 38 20 actz := ⟨⟨_, Try.underlying38, rfl⟩, by kernel_rfl, by kernel_rfl⟩
theorem bs_act : Try.prog.underlying 40 = some (.slice 38) ∧ (Try.prog.info? 38).map (fun i => (i.size, i.zero.map Value.cells)) = some (actz.size, some actz) ∧ 0 < actz.size ∧ actz.size ≤ 65536 := ⟨Try.underlying40, by kernel_rfl, by decide, by decide⟩
section
variable {W w : World} {l : List Thing}
set_option maxRecDepth 100000
set_option maxHeartbeats 1000000
theorem great27_one (g : Nat) (kd : Int) (ca : Option Addr) (cn cc : Nat) (kind frm lto term index mark commit : Int) (yes : Bool) (ea : Option Addr) (en ec : Nat) (da : Option Addr) (dn dc : Nat) (cid cnum : Int) (sa : Option Addr) (sn sc : Nat) (err rerr rat : Int) (ga : Option Addr) (gn gc : Nat) (near : Bool)
    (b0 : cn ≤ 9223372036854775807) (b1 : en ≤ 9223372036854775807) (b2 : dn ≤ 9223372036854775807) (b3 : sn ≤ 9223372036854775807) (b4 : gn ≤ 9223372036854775807) (he : EntriesOk W ea en)
    (H : Heap W (Cel g (act kd (.slice ca cn cc) kind frm lto term index mark commit yes (.slice ea en ec) (.slice da dn dc) cid cnum (.slice sa sn sc) err rerr rat (.slice ga gn gc) near) 38 :: l) w) :
    Calls Try.prog 6 #[.slice (some ⟨g, 0, none⟩) 1 1] w (SomeB W l) := by
  have HE := Lib.hid he
  clear he
  go_enter Try.func6, Try.ntmps6
  go_wp2_with fail
  go_loopw [3] (fun i wr => ∃ k : Nat, k ≤ 1 ∧ i = .int .i64 k ∧ Heap W (Cel g (act kd (.slice ca cn cc) kind frm lto term index mark commit yes (.slice ea en ec) (.slice da dn dc) cid cnum (.slice sa sn sc) err rerr rat (.slice ga gn gc) near) 38 :: l) wr) (fun i _ => 1 - (intOf i).toNat)
  case atStart => exact ⟨0, Nat.zero_le _, rfl, H⟩
  case round =>
    obtain ⟨k, hk, rfl, H'⟩ := hrel
    clear H
    have H := H'
    clear H'
    by_cases h1 : k < 1
    · obtain rfl : k = 0 := by omega
      go_wp2_with (first | go_skip | ((with_reducible show wpList _ _ _ (_ :: _) _ _); (with_reducible apply wpl_loadRH row_letg); (· rfl); (· rfl); (· exact H); (· (repeat (first | (with_reducible exact List.mem_cons_self) | with_reducible apply List.mem_cons_of_mem))); (· (simp only [act_sz, Nat.reduceAdd, Nat.reduceLeDiff, Nat.le_refl]; done)); (· with_reducible exact act_letg ..); (simp only [Act.put, List.setIfInBounds_toArray, List.set_cons_zero, List.set_cons_succ])))
      have C := great23_H kind frm lto term index mark commit yes ea en ec da dn dc cid cnum sa sn sc err rerr rat ga gn gc b1 b2 b3 b4 HE.out H
      clear H
      refine C.mono ?_
      clear C
      rintro e w1 ⟨b, rfl, H⟩
      cases b
      · by_cases h5 : 50 < cn
        · go_wp2_with (first | go_skip | ((with_reducible show wpList _ _ _ (_ :: _) _ _); (with_reducible apply wpl_loadCH); (· first | exact cell_steps); (· rfl); (· rfl); (· exact H); (· (repeat (first | (with_reducible exact List.mem_cons_self) | with_reducible apply List.mem_cons_of_mem))); (· (with_reducible first | exact act_g0 .. | exact act_g1 .. | exact act_g2 .. | exact act_g3 .. | exact act_g4 .. | exact act_g5 .. | exact act_g6 .. | exact act_g7 .. | exact act_g8 .. | exact act_g9 .. | exact act_g10 .. | exact act_g11 .. | exact act_g12 .. | exact act_g13 .. | exact act_g14 .. | exact act_g15 .. | exact act_g16 .. | exact act_g17 .. | exact act_g18 .. | exact act_g19 ..)); (simp only [Act.put, List.setIfInBounds_toArray, List.set_cons_zero, List.set_cons_succ])))
          go_ret
          exact SomeB.mk H.tail
        · go_wp2_with (first | go_skip | ((with_reducible show wpList _ _ _ (_ :: _) _ _); (with_reducible apply wpl_loadCH); (· first | exact cell_steps); (· rfl); (· rfl); (· exact H); (· (repeat (first | (with_reducible exact List.mem_cons_self) | with_reducible apply List.mem_cons_of_mem))); (· (with_reducible first | exact act_g0 .. | exact act_g1 .. | exact act_g2 .. | exact act_g3 .. | exact act_g4 .. | exact act_g5 .. | exact act_g6 .. | exact act_g7 .. | exact act_g8 .. | exact act_g9 .. | exact act_g10 .. | exact act_g11 .. | exact act_g12 .. | exact act_g13 .. | exact act_g14 .. | exact act_g15 .. | exact act_g16 .. | exact act_g17 .. | exact act_g18 .. | exact act_g19 ..)); (simp only [Act.put, List.setIfInBounds_toArray, List.set_cons_zero, List.set_cons_succ])))
          go_roundw
          case rel => exact ⟨1, by omega, rfl, H⟩
          case measure => simp [intOf]
      · go_wp2_with (first | go_skip | ((with_reducible show wpList _ _ _ (_ :: _) _ _); (with_reducible apply wpl_loadCH); (· first | exact cell_steps); (· rfl); (· rfl); (· exact H); (· (repeat (first | (with_reducible exact List.mem_cons_self) | with_reducible apply List.mem_cons_of_mem))); (· (with_reducible first | exact act_g0 .. | exact act_g1 .. | exact act_g2 .. | exact act_g3 .. | exact act_g4 .. | exact act_g5 .. | exact act_g6 .. | exact act_g7 .. | exact act_g8 .. | exact act_g9 .. | exact act_g10 .. | exact act_g11 .. | exact act_g12 .. | exact act_g13 .. | exact act_g14 .. | exact act_g15 .. | exact act_g16 .. | exact act_g17 .. | exact act_g18 .. | exact act_g19 ..)); (simp only [Act.put, List.setIfInBounds_toArray, List.set_cons_zero, List.set_cons_succ])))
        go_ret
        exact SomeB.mk H.tail
    · obtain rfl : k = 1 := by omega
      go_wp2_with fail
      go_ret
      exact SomeB.mk H.tail
end
end Go.Proofs.Ytjipelhcgglhhaa
