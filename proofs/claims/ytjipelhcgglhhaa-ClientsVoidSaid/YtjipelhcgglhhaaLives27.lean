/- countinghouselaw27: command, lives. -/
import Derived.Test.YtjipelhcgglhhaaCliTake
namespace Go.Proofs.Ytjipelhcgglhhaa
open Go.RowKit
set_option linter.unusedSimpArgs false
set_option linter.unusedVariables false
section
variable {W w : World} {l : List Thing}
set_option maxRecDepth 100000
set_option maxHeartbeats 1000000
/-- The command's one step. -/
def step1 : Array Value := #[.int .u8 10, .int .u8 0, .int .u8 0, .int .u8 1, .int .u8 0, .int .i64 0, .int .i64 0, .int .i64 0, .int .i64 0, .int .u64 0]
theorem step1_len : step1.toList.length = 1 * 10 := rfl
theorem step1_one : OneCells step1.toList := by
  intro u hu
  simp [step1] at hu
  rcases hu with rfl | rfl | rfl | rfl | rfl | rfl <;> rfl
theorem Heap.celRd (H : Heap W l w) {p : Nat} {c : Array Value} {t : TypeId} (m : Cel p c t ∈ l) : Rd w (some ⟨p, 0, none⟩) c.toList := by
  intro i hi
  refine ⟨p, 0, rfl, ?_⟩
  rw [cell_of_row w p (0 + i) c t _ (H.blk m)]
  simp at hi
  simp [hi]
theorem bs_step : Try.prog.underlying 22 = some (.slice 87) ∧ (Try.prog.info? 87).map (fun i => (i.size, i.zero.map Value.cells)) = some ((#[.int .u8 0, .int .u8 0, .int .u8 0, .int .u8 0, .int .u8 0, .int .i64 0, .int .i64 0, .int .i64 0, .int .i64 0, .int .u64 0] : Array Value).size, some #[.int .u8 0, .int .u8 0, .int .u8 0, .int .u8 0, .int .u8 0, .int .i64 0, .int .i64 0, .int .i64 0, .int .i64 0, .int .u64 0]) ∧ 0 < (#[.int .u8 0, .int .u8 0, .int .u8 0, .int .u8 0, .int .u8 0, .int .i64 0, .int .i64 0, .int .i64 0, .int .i64 0, .int .u64 0] : Array Value).size ∧ (#[.int .u8 0, .int .u8 0, .int .u8 0, .int .u8 0, .int .u8 0, .int .i64 0, .int .i64 0, .int .i64 0, .int .i64 0, .int .u64 0] : Array Value).size ≤ 65536 := ⟨Try.underlying22, by kernel_rfl, by decide, by decide⟩
theorem cmd_cells (a : Option Addr) (n c : Nat) : Cells 1 #[.slice a n c] := ⟨rfl, by simp [Value.oneCell']⟩
theorem cmd_spl (a b : Value) : splice #[a] 0 #[b] = #[b] := splice_all rfl
theorem command_H (H : Heap W l w) : Calls Try.prog 14 #[] w fun e w' => ∃ g, e = .returned (.agg #[.slice (some ⟨g, 0, none⟩) 1 1]) ∧ Heap W (Cel g step1 87 :: l) w' := by
  go_enter Try.func14, Try.ntmps14
  go_wp2_with (first
    | go_skip
    | ((with_reducible show wpList _ _ _ (_ :: _) _ _); (with_reducible apply wpl_allocRH row_cmd); (· rfl); (· exact H); (clear H; intro p0 _ H); (simp only [Act.put, List.setIfInBounds_toArray, List.set_cons_zero, List.set_cons_succ]))
    | ((with_reducible show wpList _ _ _ (_ :: _) _ _); (with_reducible apply wpl_bsRH); (· rfl); (· rfl); (· exact bs_step); (· exact rfl); (· exact H); (clear H; intro g0 _ H); (simp only [Act.put, List.setIfInBounds_toArray, List.set_cons_zero, List.set_cons_succ]))
    | ((with_reducible show wpList _ _ _ (_ :: _) _ _); (with_reducible apply wpl_storeRH row_cmd); (· rfl); (· rfl); (· rfl); (· with_reducible exact cmd_cells ..); (· exact H); (· (repeat (first | (with_reducible exact List.mem_cons_self) | with_reducible apply List.mem_cons_of_mem))); (· (simp only [Array.size, List.length, Nat.reduceAdd, Nat.reduceLeDiff, Nat.le_refl]; done)); (· with_reducible exact cmd_spl ..); (· (repeat (first | (with_reducible exact Repl.here) | with_reducible apply Repl.there))); (clear H; intro _ H); (simp only [Act.put, List.setIfInBounds_toArray, List.set_cons_zero, List.set_cons_succ])))
  exact ret_row1H row_cmd rfl rfl rfl H (by (repeat (first | (with_reducible exact List.mem_cons_self) | with_reducible apply List.mem_cons_of_mem))) rfl ⟨g0, rfl, H.drop (.there .here)⟩
theorem new_H (id n : Int) (H : Heap W l w) (h0 : 1 ≤ id) (h1 : id ≤ 8) (h2 : 1 ≤ n) (h3 : n ≤ 7) :
    Calls Try.prog 13 #[.int .i64 id, .int .i64 n] w fun e w' => ∃ p, e = .returned (.pointer (some ⟨p, 0, none⟩)) ∧ Heap W (Cli p id n 1 0 0 0 0 0 0 0 (.slice none 0 0) false :: l) w' := by
  have k0 : decide (id < 1) = false := by simp; omega
  have k1 : decide (8 < id) = false := by simp; omega
  have k2 : decide (n < 1) = false := by simp; omega
  have k3 : decide (7 < n) = false := by simp; omega
  have hw : IntKind.u8.wrap id = id := IntWalk.u8_in _ (by omega)
  clear h0 h1 h2 h3
  go_enter Try.func13, Try.ntmps13
  go_wp2_with (first
    | go_skip
    | ((with_reducible show wpList _ _ _ (_ :: _) _ _); (with_reducible apply wpl_boxRH); (· rfl); (· rfl); (· exact H); (clear H; intro px _ H); (simp only [Act.put, List.setIfInBounds_toArray, List.set_cons_zero, List.set_cons_succ])))
  go_ret
  exact ⟨px, rfl, H⟩
theorem lives27_H (H : Heap W l w) : Calls Try.prog 7 #[] w fun e w' => e = .returned (.bool true) ∧ Heap W l w' := by
  go_enter Try.func7, Try.ntmps7
  go_wp2_with fail
  have C := new_H 1 3 H (by omega) (by omega) (by omega) (by omega)
  clear H
  refine C.mono ?_
  clear C
  rintro e w1 ⟨p, rfl, H⟩
  go_wp2_with fail
  have C := command_H H
  clear H
  refine C.mono ?_
  clear C
  rintro e w2 ⟨g0, rfl, H⟩
  go_wp2_with fail
  have C := call_H p g0 0 1 1 1 3 1 0 1 0 0 0 0 0 0 (.slice none 0 0) step1.toList (H.pull (.there .here)) (by omega) (by omega) step1_len step1_one (by omega) (by omega) (by decide) (by decide) (fun w' H' => H'.celRd List.mem_cons_self)
  clear H
  refine C.mono ?_
  clear C
  rintro e w3 ⟨q, g', c', g, c0, rfl, H⟩
  replace H := H.pull (.there (.there .here))
  go_wp2_with fail
  go_loopw [4] (fun i wr => ∃ k : Nat, k ≤ 4 ∧ i = .int .i64 k ∧ Heap W (Cli p 1 3 1 1 k 6 (100 + 1) 1 1 1 (.slice (some ⟨g, 0, none⟩) 1 c0) true :: Cel q (lett 6 (100 + 1) 1 1 1 (.slice (some ⟨g', 0, none⟩) 1 1)) 36 :: StepsT g' 1 c' step1.toList :: StepsT g 1 c0 step1.toList :: Cel g0 step1 87 :: l) wr) (fun i _ => 4 - (intOf i).toNat)
  case atStart => exact ⟨0, by omega, rfl, H⟩
  case round =>
    obtain ⟨k, hk, rfl, H'⟩ := hrel
    clear H
    by_cases hlt : k < 4
    · go_wp2_with fail
      have C := tick_wait p 1 3 1 1 k 6 (100 + 1) 1 1 1 (.slice (some ⟨g, 0, none⟩) 1 c0) (by decide) (by omega) (by omega) H'
      clear H'
      refine C.mono ?_
      clear C
      rintro e w4 ⟨rfl, H⟩
      go_wp2_with fail
      go_roundw
      case rel => exact ⟨k + 1, by omega, by go_num, H⟩
      case measure => simp [intOf]; omega
    · obtain rfl : k = 4 := by omega
      rw [show ((4 : Nat) : Int) = 4 from rfl] at H'
      go_wp2_with fail
      have C := tick_call p g 1 c0 1 3 1 2 1 6 (100 + 1) 1 1 1 step1.toList (by omega) (by omega) (by omega) (by omega) step1_len step1_one (by omega) (by decide) (H'.top2 (by (repeat (first | (with_reducible exact Pull.here) | with_reducible apply Pull.there))) (by (repeat (first | (with_reducible exact Pull.here) | with_reducible apply Pull.there))))
      clear H'
      refine C.mono ?_
      clear C
      rintro e w4 ⟨q5, g5, c5, rfl, H⟩
      go_wp2_with (first | go_skip | ((with_reducible show wpList _ _ _ (_ :: _) _ _); (with_reducible apply wpl_loadCH); (· first | exact cell_kind | exact cell_b8 | exact cell_u64); (· rfl); (· rfl); (· exact H); (· (repeat (first | (with_reducible exact List.mem_cons_self) | with_reducible apply List.mem_cons_of_mem))); (· (with_reducible first | exact lett_g0 .. | exact lett_g1 .. | exact lett_g2 .. | exact lett_g3 .. | exact lett_g4 .. | exact lett_g5 .. | exact lett_g6 .. | exact lett_g7 .. | exact lett_g8 .. | exact lett_g9 .. | exact lett_g10 .. | exact lett_g11 .. | exact lett_g12 .. | exact lett_g13 .. | exact lett_g14 .. | exact lett_g15 .. | exact lett_g16 ..)); (simp only [Act.put, List.setIfInBounds_toArray, List.set_cons_zero, List.set_cons_succ])))
      go_ret
      exact ⟨rfl, H.tail.tail.tail.tail.tail.tail.tail⟩
end
end Go.Proofs.Ytjipelhcgglhhaa
