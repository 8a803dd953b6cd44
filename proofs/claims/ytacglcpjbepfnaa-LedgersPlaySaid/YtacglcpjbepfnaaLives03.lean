/- countinghouselaw03.lives. -/
import Derived.Test.YtacglcpjbepfnaaLedV
import Derived.Test.YtacglcpjbepfnaaLed6
import Derived.Test.YtacglcpjbepfnaaLedBack
namespace Go.Proofs.Ytacglcpjbepfnaa
open Go.RowKit
set_option linter.unusedSimpArgs false
set_option linter.unusedVariables false
abbrev sL0 : Lgr := ⟨[], []⟩
abbrev sL1 : Lgr := ⟨[1], []⟩
abbrev sL2 : Lgr := ⟨[1, 2], []⟩
abbrev sL3 : Lgr := ⟨[1, 2, 3], []⟩
abbrev sL4 : Lgr := ⟨[1, 2, 3], [⟨1, 2, 7, 100, 0⟩]⟩
abbrev sL5 : Lgr := ⟨[1, 2, 3], [⟨1, 2, 7, 100, 60⟩]⟩
abbrev sL6 : Lgr := ⟨[1, 2, 3], [⟨1, 2, 7, 100, 60⟩, ⟨2, 1, 7, 10, 0⟩]⟩
abbrev sL7 : Lgr := ⟨[1, 2, 3], [⟨1, 2, 7, 100, 0⟩, ⟨2, 1, 7, 10, 5⟩]⟩
theorem sL_s0 : openS sL0 1 = sL1 := by kernel_rfl
theorem sL_e0 : openE sL0 1 = 0 := by kernel_rfl
theorem sL_s1 : openS sL1 2 = sL2 := by kernel_rfl
theorem sL_e1 : openE sL1 2 = 0 := by kernel_rfl
theorem sL_s2 : openS sL2 3 = sL3 := by kernel_rfl
theorem sL_e2 : openE sL2 3 = 0 := by kernel_rfl
theorem sL_s3 : trustS sL3 1 2 7 100 = sL4 := by kernel_rfl
theorem sL_e3 : trustE sL3 1 2 7 100 = 0 := by kernel_rfl
theorem sL_s4 : pushS sL4 2 1 7 60 = sL5 := by kernel_rfl
theorem sL_e4 : pushE sL4 2 1 7 60 = 0 := by kernel_rfl
theorem sL_s5 : trustS sL5 2 1 7 10 = sL6 := by kernel_rfl
theorem sL_e5 : trustE sL5 2 1 7 10 = 0 := by kernel_rfl
theorem sL_s6 : pushS sL6 1 2 7 65 = sL7 := by kernel_rfl
theorem sL_e6 : pushE sL6 1 2 7 65 = 0 := by kernel_rfl
theorem sL_e7 : openE sL3 3 = 8 := by kernel_rfl
theorem sL_s7 : openS sL3 3 = sL3 := by kernel_rfl
theorem sL_e8 : trustE sL5 1 2 7 59 = 14 := by kernel_rfl
theorem sL_s8 : trustS sL5 1 2 7 59 = sL5 := by kernel_rfl
theorem sL_e9 : pushE sL7 1 2 7 6 = 11 := by kernel_rfl
theorem sL_s9 : pushS sL7 1 2 7 6 = sL7 := by kernel_rfl
theorem sL_g0 : sL0.Good := Lgr.new_good
theorem sL_g1 : sL1.Good := by have := (sL_g0.open 1); rwa [sL_s0] at this
theorem sL_g2 : sL2.Good := by have := (sL_g1.open 2); rwa [sL_s1] at this
theorem sL_g3 : sL3.Good := by have := (sL_g2.open 3); rwa [sL_s2] at this
theorem sL_g4 : sL4.Good := by have := (sL_g3.trust 1 2 7 100); rwa [sL_s3] at this
theorem sL_g5 : sL5.Good := by have := (sL_g4.push 2 1 7 60); rwa [sL_s4] at this
theorem sL_g6 : sL6.Good := by have := (sL_g5.trust 2 1 7 10); rwa [sL_s5] at this
theorem sL_g7 : sL7.Good := by have := (sL_g6.push 1 2 7 65); rwa [sL_s6] at this
section
variable {W w : World} {l : List Thing}
set_option maxRecDepth 100000
set_option maxHeartbeats 4000000
theorem lives03_H (H : Heap W l w) : Calls Try.prog 15 #[] w fun e w' => e = .returned (.bool true) ∧ Heap W l w' := by
  go_enter Try.func15, Try.ntmps15
  go_wp2_with (go_skip)
  refine (lnew_H H).mono ?_
  clear H
  rintro e w1 ⟨p, q, rfl, H⟩
  go_wp2_with (go_skip)
  refine (lopen_H (S := sL0) 1 (by decide) H).mono ?_
  clear H
  rintro e w1 ⟨rfl, H⟩
  rw [show ((1 : Nat) : Int) = 1 from rfl, sL_s0] at H
  rw [show ((1 : Nat) : Int) = 1 from rfl, sL_e0]
  go_wp2_with (go_skip)
  refine (lopen_H (S := sL1) 2 (by decide) H).mono ?_
  clear H
  rintro e w1 ⟨rfl, H⟩
  rw [show ((2 : Nat) : Int) = 2 from rfl, sL_s1] at H
  rw [show ((2 : Nat) : Int) = 2 from rfl, sL_e1]
  go_wp2_with (go_skip)
  refine (lopen_H (S := sL2) 3 (by decide) H).mono ?_
  clear H
  rintro e w1 ⟨rfl, H⟩
  rw [show ((3 : Nat) : Int) = 3 from rfl, sL_s2] at H
  rw [show ((3 : Nat) : Int) = 3 from rfl, sL_e2]
  go_wp2_with (go_skip)
  refine (lopen_H (S := sL3) 3 (by decide) H).mono ?_
  clear H
  rintro e w1 ⟨rfl, H⟩
  rw [show ((3 : Nat) : Int) = 3 from rfl, sL_s7] at H
  rw [show ((3 : Nat) : Int) = 3 from rfl, sL_e7]
  go_wp2_with (go_skip)
  refine (ltrust_H (S := sL3) 1 2 7 100 (by decide) (by decide) (by decide) sL_g3 H).mono ?_
  clear H
  rintro e w1 ⟨rfl, H⟩
  rw [show ((1 : Nat) : Int) = 1 from rfl, show ((2 : Nat) : Int) = 2 from rfl, show ((7 : Nat) : Int) = 7 from rfl, sL_s3] at H
  rw [show ((1 : Nat) : Int) = 1 from rfl, show ((2 : Nat) : Int) = 2 from rfl, show ((7 : Nat) : Int) = 7 from rfl, sL_e3]
  have r1 := lroom_H (W := W) (l := LdC p sL4.P (some q) :: LdM q sL4.L :: l) (p := p) (q := q) 2 1 7 (by decide) (by decide) (by decide) sL_g4 List.mem_cons_self (List.mem_cons_of_mem _ List.mem_cons_self)
  rw [show roomOf sL4 ((2 : Nat) : Int) ((1 : Nat) : Int) ((7 : Nat) : Int) = 100 by kernel_rfl] at r1
  change AnsH _ _ _ #[_, .int .u8 2, .int .u8 1, .int .u8 7] _ at r1
  have r2 := lroom_H (W := W) (l := LdC p sL4.P (some q) :: LdM q sL4.L :: l) (p := p) (q := q) 1 2 7 (by decide) (by decide) (by decide) sL_g4 List.mem_cons_self (List.mem_cons_of_mem _ List.mem_cons_self)
  rw [show roomOf sL4 ((1 : Nat) : Int) ((2 : Nat) : Int) ((7 : Nat) : Int) = 0 by kernel_rfl] at r2
  change AnsH _ _ _ #[_, .int .u8 1, .int .u8 2, .int .u8 7] _ at r2
  go_wp2_with (first | go_skip | ((with_reducible refine AnsH.call (by assumption) H ?_); clear H; intro _ H))
  clear r1 r2
  refine (lpush_H (S := sL4) 2 1 7 60 (by decide) (by decide) (by decide) (by decide) sL_g4 H).mono ?_
  clear H
  rintro e w1 ⟨rfl, H⟩
  rw [show ((2 : Nat) : Int) = 2 from rfl, show ((1 : Nat) : Int) = 1 from rfl, show ((7 : Nat) : Int) = 7 from rfl, sL_s4] at H
  rw [show ((2 : Nat) : Int) = 2 from rfl, show ((1 : Nat) : Int) = 1 from rfl, show ((7 : Nat) : Int) = 7 from rfl, sL_e4]
  have r0 := lline_H (W := W) (l := LdC p sL5.P (some q) :: LdM q sL5.L :: l) (p := p) (q := q) 1 2 7 (by decide) (by decide) (by decide) sL_g5 List.mem_cons_self (List.mem_cons_of_mem _ List.mem_cons_self)
  rw [show lineC sL5.L ((1 : Nat) : Int) ((2 : Nat) : Int) ((7 : Nat) : Int) = line 1 2 7 100 60 by kernel_rfl, show isLine sL5.L ((1 : Nat) : Int) ((2 : Nat) : Int) ((7 : Nat) : Int) = true by kernel_rfl] at r0
  change AnsH _ _ _ #[_, .int .u8 1, .int .u8 2, .int .u8 7] _ at r0
  go_wp2_with (first | go_skip | ((with_reducible refine AnsH.call (by assumption) H ?_); clear H; intro _ H) | ((with_reducible show wpList _ _ _ (_ :: _) _ _); (with_reducible apply wpl_allocRH row_line); (· rfl); (· exact H); (clear H; intro px _ H); (simp only [Act.put, List.setIfInBounds_toArray, List.set_cons_zero, List.set_cons_succ])) | ((with_reducible show wpList _ _ _ (_ :: _) _ _); (with_reducible apply wpl_storeRH row_line); (· rfl); (· rfl); (· rfl); (· with_reducible exact line_cells ..); (· exact H); (· (repeat (first | (with_reducible exact List.mem_cons_self) | with_reducible apply List.mem_cons_of_mem))); (· (simp only [line_sz, Nat.reduceAdd, Nat.reduceLeDiff, Nat.le_refl]; done)); (· with_reducible exact line_splice ..); (· (repeat (first | (with_reducible exact Repl.here) | with_reducible apply Repl.there))); (clear H; intro _ H); (simp only [Act.put, List.setIfInBounds_toArray, List.set_cons_zero, List.set_cons_succ])) | ((with_reducible show wpList _ _ _ (_ :: _) _ _); (with_reducible apply wpl_loadCH); (· exact cell_i64); (· rfl); (· rfl); (· exact H); (· (repeat (first | (with_reducible exact List.mem_cons_self) | with_reducible apply List.mem_cons_of_mem))); (· exact line_g4 ..); (simp only [Act.put, List.setIfInBounds_toArray, List.set_cons_zero, List.set_cons_succ])))
  replace H := H.top2 (.there .here) (.there .here)
  clear r0
  have r1 := lroom_H (W := W) (l := LdC p sL5.P (some q) :: LdM q sL5.L :: Cel px (line 1 2 7 100 60) 39 :: l) (p := p) (q := q) 1 2 7 (by decide) (by decide) (by decide) sL_g5 List.mem_cons_self (List.mem_cons_of_mem _ List.mem_cons_self)
  rw [show roomOf sL5 ((1 : Nat) : Int) ((2 : Nat) : Int) ((7 : Nat) : Int) = 60 by kernel_rfl] at r1
  change AnsH _ _ _ #[_, .int .u8 1, .int .u8 2, .int .u8 7] _ at r1
  refine (r1 _ H).mono ?_
  clear H r1
  rintro _ w1 ⟨rfl, H⟩
  have r1 := lpos_H (W := W) (l := LdC p sL5.P (some q) :: LdM q sL5.L :: Cel px (line 1 2 7 100 60) 39 :: l) (p := p) (q := q) 1 7 sL_g5 .here .here
  rw [show posL sL5.L ((1 : Nat) : Int) ((7 : Nat) : Int) = 60 by kernel_rfl] at r1
  change AnsH _ _ _ #[_, .int .u8 1, .int .u8 7] _ at r1
  have r2 := lpos_H (W := W) (l := LdC p sL5.P (some q) :: LdM q sL5.L :: Cel px (line 1 2 7 100 60) 39 :: l) (p := p) (q := q) 2 7 sL_g5 .here .here
  rw [show posL sL5.L ((2 : Nat) : Int) ((7 : Nat) : Int) = -60 by kernel_rfl] at r2
  change AnsH _ _ _ #[_, .int .u8 2, .int .u8 7] _ at r2
  go_wp2_with (first | go_skip | ((with_reducible refine AnsH.call (by assumption) H ?_); clear H; intro _ H))
  clear r1 r2
  replace H := H.drop (.there (.there .here))
  refine (ltrust_H (S := sL5) 1 2 7 59 (by decide) (by decide) (by decide) sL_g5 H).mono ?_
  clear H
  rintro e w1 ⟨rfl, H⟩
  rw [show ((1 : Nat) : Int) = 1 from rfl, show ((2 : Nat) : Int) = 2 from rfl, show ((7 : Nat) : Int) = 7 from rfl, sL_s8] at H
  rw [show ((1 : Nat) : Int) = 1 from rfl, show ((2 : Nat) : Int) = 2 from rfl, show ((7 : Nat) : Int) = 7 from rfl, sL_e8]
  go_wp2_with (go_skip)
  refine (ltrust_H (S := sL5) 2 1 7 10 (by decide) (by decide) (by decide) sL_g5 H).mono ?_
  clear H
  rintro e w1 ⟨rfl, H⟩
  rw [show ((2 : Nat) : Int) = 2 from rfl, show ((1 : Nat) : Int) = 1 from rfl, show ((7 : Nat) : Int) = 7 from rfl, sL_s5] at H
  rw [show ((2 : Nat) : Int) = 2 from rfl, show ((1 : Nat) : Int) = 1 from rfl, show ((7 : Nat) : Int) = 7 from rfl, sL_e5]
  have r1 := lroom_H (W := W) (l := LdC p sL6.P (some q) :: LdM q sL6.L :: l) (p := p) (q := q) 1 2 7 (by decide) (by decide) (by decide) sL_g6 List.mem_cons_self (List.mem_cons_of_mem _ List.mem_cons_self)
  rw [show roomOf sL6 ((1 : Nat) : Int) ((2 : Nat) : Int) ((7 : Nat) : Int) = 70 by kernel_rfl] at r1
  change AnsH _ _ _ #[_, .int .u8 1, .int .u8 2, .int .u8 7] _ at r1
  go_wp2_with (first | go_skip | ((with_reducible refine AnsH.call (by assumption) H ?_); clear H; intro _ H))
  clear r1
  refine (lpush_H (S := sL6) 1 2 7 65 (by decide) (by decide) (by decide) (by decide) sL_g6 H).mono ?_
  clear H
  rintro e w1 ⟨rfl, H⟩
  rw [show ((1 : Nat) : Int) = 1 from rfl, show ((2 : Nat) : Int) = 2 from rfl, show ((7 : Nat) : Int) = 7 from rfl, sL_s6] at H
  rw [show ((1 : Nat) : Int) = 1 from rfl, show ((2 : Nat) : Int) = 2 from rfl, show ((7 : Nat) : Int) = 7 from rfl, sL_e6]
  have r0 := lline_H (W := W) (l := LdC p sL7.P (some q) :: LdM q sL7.L :: l) (p := p) (q := q) 2 1 7 (by decide) (by decide) (by decide) sL_g7 List.mem_cons_self (List.mem_cons_of_mem _ List.mem_cons_self)
  rw [show lineC sL7.L ((2 : Nat) : Int) ((1 : Nat) : Int) ((7 : Nat) : Int) = line 2 1 7 10 5 by kernel_rfl, show isLine sL7.L ((2 : Nat) : Int) ((1 : Nat) : Int) ((7 : Nat) : Int) = true by kernel_rfl] at r0
  change AnsH _ _ _ #[_, .int .u8 2, .int .u8 1, .int .u8 7] _ at r0
  go_wp2_with (first | go_skip | ((with_reducible refine AnsH.call (by assumption) H ?_); clear H; intro _ H) | ((with_reducible show wpList _ _ _ (_ :: _) _ _); (with_reducible apply wpl_allocRH row_line); (· rfl); (· exact H); (clear H; intro py _ H); (simp only [Act.put, List.setIfInBounds_toArray, List.set_cons_zero, List.set_cons_succ])) | ((with_reducible show wpList _ _ _ (_ :: _) _ _); (with_reducible apply wpl_storeRH row_line); (· rfl); (· rfl); (· rfl); (· with_reducible exact line_cells ..); (· exact H); (· (repeat (first | (with_reducible exact List.mem_cons_self) | with_reducible apply List.mem_cons_of_mem))); (· (simp only [line_sz, Nat.reduceAdd, Nat.reduceLeDiff, Nat.le_refl]; done)); (· with_reducible exact line_splice ..); (· (repeat (first | (with_reducible exact Repl.here) | with_reducible apply Repl.there))); (clear H; intro _ H); (simp only [Act.put, List.setIfInBounds_toArray, List.set_cons_zero, List.set_cons_succ])) | ((with_reducible show wpList _ _ _ (_ :: _) _ _); (with_reducible apply wpl_loadCH); (· exact cell_i64); (· rfl); (· rfl); (· exact H); (· (repeat (first | (with_reducible exact List.mem_cons_self) | with_reducible apply List.mem_cons_of_mem))); (· with_reducible first | exact line_g4 .. | exact line_g3 ..); (simp only [Act.put, List.setIfInBounds_toArray, List.set_cons_zero, List.set_cons_succ])))
  replace H := H.top2 (.there .here) (.there .here)
  clear r0
  have r2 := ltot_H (W := W) (l := LdC p sL7.P (some q) :: LdM q sL7.L :: Cel py (line 2 1 7 10 5) 39 :: l) (p := p) (q := q) 7 sL_g7 .here .here
  rw [show totL sL7.L ((7 : Nat) : Int) = 5 by kernel_rfl] at r2
  change AnsH _ _ _ #[_, .int .u8 7] _ at r2
  refine (r2 _ H).mono ?_
  clear H r2
  rintro _ w1 ⟨rfl, H⟩
  go_wp2_with (first | go_skip)
  refine (lpush_H (S := sL7) 1 2 7 6 (by decide) (by decide) (by decide) (by decide) sL_g7 H).mono ?_
  clear H
  rintro e w1 ⟨rfl, H⟩
  rw [show ((1 : Nat) : Int) = 1 from rfl, show ((2 : Nat) : Int) = 2 from rfl, show ((7 : Nat) : Int) = 7 from rfl, sL_s9] at H
  rw [show ((1 : Nat) : Int) = 1 from rfl, show ((2 : Nat) : Int) = 2 from rfl, show ((7 : Nat) : Int) = 7 from rfl, sL_e9]
  go_wp2_with (go_skip)
  go_ret
  exact ⟨rfl, H.tail.tail.tail⟩
end
end Go.Proofs.Ytacglcpjbepfnaa
