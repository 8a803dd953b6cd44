/- The walk of GraphsVoid: whatever the push, the law returns true. -/
import Derived.Test.YtglehneaphigdaaLives05
namespace Go.Proofs.Ytglehneaphigdaa
open Go.RowKit
set_option linter.unusedSimpArgs false
set_option linter.unusedVariables false
def pp (a : Value) (b : Value) : Array Value := #[a, b]
section
variable (a : Value) (b : Value)
theorem pp_sz : (pp a b).size = 2 := rfl
theorem pp_g0 : (pp a b)[0]? = some (a) := rfl
theorem pp_s0 (v : Value) : (pp a b).setIfInBounds 0 (v) = pp v b := rfl
theorem pp_g1 : (pp a b)[1]? = some (b) := rfl
theorem pp_s1 (v : Value) : (pp a b).setIfInBounds 1 (v) = pp a v := rfl
end
theorem cell_pg : CellTy 25 := ⟨⟨_, Try.underlying25, rfl⟩, by kernel_rfl⟩
theorem pp_ones (pn : Nat) : ∀ v ∈ [Value.pointer none, .pointer (some ⟨pn, 0, none⟩)], v.cells = #[v] := by
  intro v hv
  simp at hv
  rcases hv with rfl | rfl <;> rfl
theorem bs_pp : Try.prog.underlying 82 = some (.slice 25) ∧ (Try.prog.info? 25).map (fun i => (i.size, i.zero)) = some (1, some (.pointer none)) := ⟨Try.underlying82, by kernel_rfl⟩
theorem zeroC_edges : edgesOf zeroC = [] := by kernel_rfl
theorem same_zero : matSame zeroC zeroC = true := by rw [matSame_iff]; intros; rfl
set_option maxRecDepth 100000
set_option maxHeartbeats 3000000
theorem graphsVoid_walk (a b : Nat) (n : Int) (w : World) (ha : a ≤ 255) (hb : b ≤ 255) (h0 : -9223372036854775808 ≤ n) (h1 : n ≤ 9223372036854775807) :
    Calls Try.prog 11 #[.agg (flow a b n)] w fun e w' => e = .returned (.bool true) ∧ Below w.heap.size w w' := by
  have H := Heap.start w
  go_enter Try.func11, Try.ntmps11
  go_wp2_with (first
    | go_skip
    | ((with_reducible show wpList _ _ _ (_ :: _) _ _); (with_reducible apply wpl_boxRH); (· rfl); (· rfl); (· exact H); (clear H; intro px _ H); (simp only [Act.put, List.setIfInBounds_toArray, List.set_cons_zero, List.set_cons_succ]))
    | ((with_reducible show wpList _ _ _ (_ :: _) _ _); (with_reducible apply wpl_allocRH row_gr); (· rfl); (· exact H); (clear H; intro pn _ H); (simp only [Act.put, List.setIfInBounds_toArray, List.set_cons_zero, List.set_cons_succ]))
    | ((with_reducible show wpList _ _ _ (_ :: _) _ _); (with_reducible apply wpl_bsOnes _ [.pointer none, .pointer (some ⟨pn, 0, none⟩)]); (· rfl); (· rfl); (· rfl); (· decide); (· decide); (· exact pp_ones pn); (· exact bs_pp); (· rfl); (· exact H); (clear H; intro pl _ H); (change Heap _ (Cel pl (pp _ _) _ :: _) _ at H); (simp only [Act.put, List.setIfInBounds_toArray, List.set_cons_zero, List.set_cons_succ])))
  have C := of_nil H 1
  clear H
  refine C.mono ?_
  clear C
  rintro e w1 ⟨pb, rfl, H⟩
  go_wp2_with fail
  go_loopw [6] (fun i wr => ∃ k : Nat, k ≤ 2 ∧ i = .int .i64 k ∧ Heap w [Gr pb zeroC, Cel pl (pp (.pointer none) (.pointer (some ⟨pn, 0, none⟩))) 25, Cel pn (gr zeroC false) 81, Cel px (flow a b n) 35] wr) (fun i _ => 2 - (intOf i).toNat)
  case atStart => exact ⟨0, by omega, rfl, H⟩
  case round =>
    obtain ⟨k, hk, rfl, H'⟩ := hrel
    clear H
    have H := H'
    clear H'
    have A1 : AnsH w [Gr pb zeroC, Cel pl (pp (.pointer none) (.pointer (some ⟨pn, 0, none⟩))) 25, Cel pn (gr zeroC false) 81, Cel px (flow a b n) 35] 50 #[.pointer none] (.agg (mat zeroC)) := all_nil.toH
    have A2 : AnsH w [Gr pb zeroC, Cel pl (pp (.pointer none) (.pointer (some ⟨pn, 0, none⟩))) 25, Cel pn (gr zeroC false) 81, Cel px (flow a b n) 35] 50 #[.pointer (some ⟨pb, 0, none⟩)] (.agg (mat zeroC)) := all_H (m := true) (by (repeat (first | (with_reducible exact List.mem_cons_self) | with_reducible apply List.mem_cons_of_mem))) (fun h => by cases h)
    have A3 : AnsH w [Gr pb zeroC, Cel pl (pp (.pointer none) (.pointer (some ⟨pn, 0, none⟩))) 25, Cel pn (gr zeroC false) 81, Cel px (flow a b n) 35] 50 #[.pointer (some ⟨pn, 0, none⟩)] (.agg (mat zeroC)) := all_H (m := false) (by (repeat (first | (with_reducible exact List.mem_cons_self) | with_reducible apply List.mem_cons_of_mem))) (fun _ => rfl)
    obtain rfl | rfl | rfl : k = 0 ∨ k = 1 ∨ k = 2 := by omega
    · have S1 := same_ans _ _ A1 A2
      have S2 := same_ans _ _ A2 A1
      have S3 := same_ans _ _ A1 A3
      rw [same_zero] at S1 S2 S3
      have c1 := cap_nil a b ha hb
      have c2 := push_nil a b n
      have c3 := edges_nil
      have c4 := copy_nil
      clear A1 A2 A3
      go_wp2_with (first
        | go_skip
        | ((with_reducible refine Ans.callH (by assumption) H ?_); clear H; intro _ H)
        | ((with_reducible refine AnsH.call (by assumption) H ?_); clear H; intro _ H)
        | ((with_reducible show wpList _ _ _ (_ :: _) _ _); (with_reducible apply wpl_loadCH); (· first | exact cell_party | exact cell_i64 | exact cell_pg); (· rfl); (· rfl); (· exact H); (· (repeat (first | (with_reducible exact List.mem_cons_self) | with_reducible apply List.mem_cons_of_mem))); (· (with_reducible first | exact flow_g0 .. | exact flow_g1 .. | exact flow_g2 .. | exact pp_g0 .. | exact pp_g1 ..)); (simp only [Act.put, List.setIfInBounds_toArray, List.set_cons_zero, List.set_cons_succ])))
      go_roundw
      case rel => exact ⟨1, by omega, rfl, H⟩
      case measure => simp [intOf]
    · have S1 := same_ans _ _ A3 A2
      have S2 := same_ans _ _ A2 A3
      have S3 := same_ans _ _ A3 A1
      rw [same_zero] at S1 S2 S3
      have c1 : AnsH w [Gr pb zeroC, Cel pl (pp (.pointer none) (.pointer (some ⟨pn, 0, none⟩))) 25, Cel pn (gr zeroC false) 81, Cel px (flow a b n) 35] _ _ _ := cap_zero (p := pn) (c := zeroC) a b ha hb (by (repeat (first | (with_reducible exact List.mem_cons_self) | with_reducible apply List.mem_cons_of_mem)))
      have c2 : AnsH w [Gr pb zeroC, Cel pl (pp (.pointer none) (.pointer (some ⟨pn, 0, none⟩))) 25, Cel pn (gr zeroC false) 81, Cel px (flow a b n) 35] _ _ _ := push_zero (p := pn) (c := zeroC) a b n (by (repeat (first | (with_reducible exact List.mem_cons_self) | with_reducible apply List.mem_cons_of_mem)))
      have c3 : AnsH w [Gr pb zeroC, Cel pl (pp (.pointer none) (.pointer (some ⟨pn, 0, none⟩))) 25, Cel pn (gr zeroC false) 81, Cel px (flow a b n) 35] _ _ _ := edges_zero (p := pn) (c := zeroC) (by (repeat (first | (with_reducible exact List.mem_cons_self) | with_reducible apply List.mem_cons_of_mem)))
      have c4 : AnsH w [Gr pb zeroC, Cel pl (pp (.pointer none) (.pointer (some ⟨pn, 0, none⟩))) 25, Cel pn (gr zeroC false) 81, Cel px (flow a b n) 35] _ _ _ := copy_zero (p := pn) (c := zeroC) (by (repeat (first | (with_reducible exact List.mem_cons_self) | with_reducible apply List.mem_cons_of_mem)))
      clear A1 A2 A3
      go_wp2_with (first
        | go_skip
        | ((with_reducible refine AnsH.call (by assumption) H ?_); clear H; intro _ H)
        | ((with_reducible show wpList _ _ _ (_ :: _) _ _); (with_reducible apply wpl_loadCH); (· first | exact cell_party | exact cell_i64 | exact cell_pg); (· rfl); (· rfl); (· exact H); (· (repeat (first | (with_reducible exact List.mem_cons_self) | with_reducible apply List.mem_cons_of_mem))); (· (with_reducible first | exact flow_g0 .. | exact flow_g1 .. | exact flow_g2 .. | exact pp_g0 .. | exact pp_g1 ..)); (simp only [Act.put, List.setIfInBounds_toArray, List.set_cons_zero, List.set_cons_succ])))
      go_roundw
      case rel => exact ⟨2, by omega, rfl, H⟩
      case measure => simp [intOf]
    · clear A1 A2 A3
      go_wp2_with fail
      have C := edges_H H (by (repeat (first | (with_reducible exact List.mem_cons_self) | with_reducible apply List.mem_cons_of_mem)))
      clear H
      refine C.mono ?_
      clear C
      rintro e w2 hP
      rw [zeroC_edges] at hP
      rcases hP with ⟨_, rfl, H⟩ | ⟨h0, _⟩
      · go_wp2_with fail
        have C := lives05_H H
        clear H
        refine C.mono ?_
        clear C
        rintro e w3 ⟨rfl, H⟩
        go_wp2_with fail
        go_ret
        exact ⟨rfl, H.low⟩
      · cases h0
end Go.Proofs.Ytglehneaphigdaa
