/- countinghouseref05.Of: the graph of the reference's ledger. -/
import Derived.Test.YtgobnamhdkbbeaaRefLed
import Derived.Test.YtgobnamhdkbbeaaPayGPart15
namespace Go.Proofs.Ytgobnamhdkbbeaa
open Go.RowKit
set_option linter.unusedSimpArgs false
set_option linter.unusedVariables false
/-- A graph's block and the edges it has so far. -/
def RgL (W : World) (l : List Thing) (p : Nat) (F : List Flw) (w : World) : Prop := ∃ a cc, Heap W (RgT p (.slice a F.length cc) :: FlT (.slice a F.length cc) F.length F :: l) w
theorem RgL.start {W w : World} {l : List Thing} {g : Nat} {F : List Flw} (H : Heap W (RgT g (.slice none 0 0) :: l) w) (h : F = []) : RgL W l g F w := by
  subst h
  exact ⟨none, 0, (H.nilRow _ _).perm (.swap _ _ _)⟩
structure OfGA (W : World) (l : List Thing) (c : Caps) (g : Nat) (i : Value) (wr : World) : Prop where
  out : ∃ a : Nat, i = .int .u8 (a : Int) ∧ 1 ≤ a ∧ a ≤ 17 ∧ RgL W l g (matE c a) wr
structure OfGB (W : World) (l : List Thing) (c : Caps) (g a : Nat) (i : Value) (wr : World) : Prop where
  out : ∃ b : Nat, i = .int .u8 (b : Int) ∧ 1 ≤ b ∧ b ≤ 17 ∧ RgL W l g (matE c a ++ rowE c a b) wr
section
variable {W w : World} {l : List Thing} {p : Nat} {S : Lgr}
set_option maxRecDepth 100000
set_option maxHeartbeats 4000000
theorem rofG_H (c : Nat) (hc : c ≤ 255) (G : S.Good) (M : RefM l p S) (H : Heap W l w) :
    Calls Try.prog 67 #[.pointer (some ⟨p, 0, none⟩), .int .u8 (c : Int)] w fun e w' => ∃ g, e = .returned (.pointer (some ⟨g, 0, none⟩)) ∧ RgH W l g (capsS S c) w' := by
  have HX := Lib.hid (capsS_play G c).good
  have HROOM := Lib.hid (show ∀ (l' : List Thing) (x y : Nat) (hx : x ≤ 255) (hy : y ≤ 255) (hs : ∀ t ∈ l, t ∈ l'), AnsH W l' 63 #[.pointer (some ⟨p, 0, none⟩), .int .u8 (x : Int), .int .u8 (y : Int), .int .u8 (c : Int)] (.int .i64 (capsS S c x y)) from fun l' x y hx hy hs => rroom_H (W := W) x y c G (M.more hs) hx hy hc)
  generalize capsS S c = C at *
  clear G M
  go_enter Try.func67, Try.ntmps67
  go_wp2_with (first | go_skip | ((with_reducible show wpList _ _ _ (_ :: _) _ _); (with_reducible apply wpl_boxRH); (· rfl); (· rfl); (· exact H); (clear H; intro g _ H); (simp only [Act.put, List.setIfInBounds_toArray, List.set_cons_zero, List.set_cons_succ])))
  have H0 := RgL.start H HX.out.mat1
  clear H
  go_loopw [6] (fun i wr => OfGA W l C g i wr) (fun i _ => 17 - (intOf i).toNat)
  case atStart => exact ⟨1, rfl, by omega, by omega, H0⟩
  case round =>
    obtain ⟨x, rfl, hx1, hx, H⟩ := hrel.out
    clear H0 hrel
    by_cases hlt : x < 17
    · have g1 : decide ((x : Int) ≤ 16) = true := by simp; omega
      go_wp2_with (go_skip)
      have H0 := H
      clear H
      go_loopw [7] (fun i wr => OfGB W l C g x i wr) (fun i _ => 17 - (intOf i).toNat)
      case atStart => exact ⟨1, rfl, by omega, by omega, by rw [HX.out.col0, List.append_nil]; exact H0⟩
      case round =>
        obtain ⟨y, rfl, hy1, hy, a, cc, H⟩ := hrel.out
        clear H0 hrel
        by_cases hlt2 : y < 17
        · have g2 : decide ((y : Int) ≤ 16) = true := by simp; omega
          have hlen : (matE C x ++ rowE C x y).length ≤ 289 := by have := matE_len C x; have := rowE_len C x y; simp only [List.length_append]; omega
          have HR := Lib.hid (show rowE C x (y + 1) = rowE C x y ++ if 0 < C x y then [⟨x, y, C x y⟩] else [] from rfl)
          have hA := AnsH.on H (HROOM.out (RgT g (.slice a (matE C x ++ rowE C x y).length cc) :: FlT (.slice a (matE C x ++ rowE C x y).length cc) (matE C x ++ rowE C x y).length (matE C x ++ rowE C x y) :: l) x y (by omega) (by omega) (fun t ht => List.mem_cons_of_mem _ (List.mem_cons_of_mem _ ht)))
          obtain ⟨N, hN⟩ : ∃ N, (matE C x ++ rowE C x y).length = N := ⟨_, rfl⟩
          have HN := Lib.hid hN
          rw [hN] at H hA hlen
          clear hN
          have hn1 : N + 1 ≤ maxLen := by unfold maxLen; omega
          have hn2 : (N + 1) * 16 ≤ 140737488355328 := by omega
          generalize C x y = cv at *
          by_cases hp : 0 < cv
          · have g3 : decide (cv > 0) = true := decide_eq_true hp
            have HRR := Lib.hid (show matE C x ++ rowE C x (y + 1) = (matE C x ++ rowE C x y) ++ [⟨x, y, cv⟩] by rw [HR.out, if_pos hp, List.append_assoc])
            go_wp2_with (first
              | go_skip
              | ((with_reducible refine AnsH.call (by assumption) H ?_); clear H; intro _ H)
              | ((with_reducible show wpList _ _ _ (_ :: _) _ _); (with_reducible apply wpl_loadCH); (· exact cell_flows); (· rfl); (· rfl); (· exact H); (· (repeat (first | (with_reducible exact List.mem_cons_self) | with_reducible apply List.mem_cons_of_mem))); (· exact rgC_g ..); (simp only [Act.put, List.setIfInBounds_toArray, List.set_cons_zero, List.set_cons_succ]))
              | ((with_reducible show wpList _ _ _ (_ :: _) _ _); (with_reducible apply wpl_bsRH); (· rfl); (· rfl); (· exact bs_flow); (· exact rfl); (· exact H); (clear H; intro pf _ H); (simp only [Act.put, List.setIfInBounds_toArray, List.set_cons_zero, List.set_cons_succ]))
              | ((with_reducible show wpList _ _ _ (_ :: _) _ _); (with_reducible apply wpl_appendH slF); (· rfl); (· rfl); (· rfl); (· rfl); (· exact H.pull (.there (.there .here))); (· exact H.celRd List.mem_cons_self); (· rfl); (· exact flowC_one _ _ _); (· exact hn1); (· exact hn2); (clear H; intro v2 _ H; obtain ⟨a2, c2, rfl, _, _⟩ := RowT.form0 (H.ok _ List.mem_cons_self)); (simp only [Act.put, List.setIfInBounds_toArray, List.set_cons_zero, List.set_cons_succ]))
              | ((with_reducible show wpList _ _ _ (_ :: _) _ _); (with_reducible apply wpl_storeSH); (· exact cell_flows); (· rfl); (· rfl); (· rfl); (· exact H); (· (repeat (first | (with_reducible exact List.mem_cons_self) | with_reducible apply List.mem_cons_of_mem))); (· exact Nat.le_refl 1); (· rfl); (· (repeat (first | (with_reducible exact Repl.here) | with_reducible apply Repl.there))); (clear H; intro _ H); (simp only [Act.put, List.setIfInBounds_toArray, List.set_cons_zero, List.set_cons_succ])))
            refine ⟨⟨y + 1, by go_num, by omega, by omega, ?_⟩, ?measure⟩
            · rw [HRR.out]
              refine ⟨a2, c2, ?_⟩
              rw [flT_snoc, List.length_append, HN.out]
              exact (H.drop (.there .here)).perm (.swap _ _ _)
            case measure => simp [intOf]; omega
          · have g3 : decide (cv > 0) = false := decide_eq_false hp
            have HRR := Lib.hid (show rowE C x (y + 1) = rowE C x y by rw [HR.out, if_neg hp, List.append_nil])
            go_wp2_with (first | go_skip | ((with_reducible refine AnsH.call (by assumption) H ?_); clear H; intro _ H))
            refine ⟨⟨y + 1, by go_num, by omega, by omega, ?_⟩, ?measure2⟩
            · rw [HRR.out]
              refine ⟨a, cc, ?_⟩
              rw [HN.out]
              exact H
            case measure2 => simp [intOf]; omega
        · obtain rfl : y = 17 := by omega
          have g2 : decide (((17 : Nat) : Int) ≤ 16) = false := by decide
          go_wp2_with (go_skip)
          go_roundw
          case rel => exact ⟨⟨x + 1, by go_num, by omega, by omega, a, cc, H⟩⟩
          case measure => simp [intOf]; omega
    · obtain rfl : x = 17 := by omega
      have g1 : decide (((17 : Nat) : Int) ≤ 16) = false := by decide
      obtain ⟨a, cc, H⟩ := H
      go_wp2_with (go_skip)
      go_ret
      exact ⟨g, rfl, a, cc, H⟩
end
end Go.Proofs.Ytgobnamhdkbbeaa
