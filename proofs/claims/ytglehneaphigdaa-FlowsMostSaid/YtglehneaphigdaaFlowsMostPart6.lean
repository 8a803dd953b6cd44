/- FlowsMost: part 6 of its proof: Ref05b, Ref05c, Ref05d. -/
import Derived.Test.YtglehneaphigdaaFlowsMostPart5
/- countinghouseref05: set, New, Push, Copy. -/
namespace Go.Proofs.Ytglehneaphigdaa
open Go.RowKit
set_option linter.unusedSimpArgs false
set_option linter.unusedVariables false
def BndC (c : Caps) : Prop := ∀ a b, c a b ≤ 4611686018427387904
theorem rowE_mem {c : Caps} {r : Nat} {x : Flw} : ∀ k, x ∈ rowE c r k → x.f = r ∧ x.t < k ∧ x.n = c x.f x.t ∧ 0 < x.n
  | 0, h => by cases h
  | k + 1, h => by
    rw [rowE] at h
    rcases List.mem_append.1 h with h | h
    · have := rowE_mem k h
      exact ⟨this.1, by omega, this.2.2⟩
    · split at h
      · rename_i hp
        rw [List.mem_singleton.1 h]
        exact ⟨rfl, by show k < k + 1; omega, rfl, hp⟩
      · cases h
theorem matE_mem {c : Caps} {x : Flw} : ∀ k, x ∈ matE c k → x.f < k ∧ x.t < 17 ∧ x.n = c x.f x.t ∧ 0 < x.n
  | 0, h => by cases h
  | k + 1, h => by
    rw [matE] at h
    rcases List.mem_append.1 h with h | h
    · have := matE_mem k h
      exact ⟨by omega, this.2⟩
    · have := rowE_mem 17 h
      exact ⟨by omega, this.2⟩
theorem edges_ok {c : Caps} (h : BndC c) : ∀ x ∈ edgesOf c, FlwOk x := fun x hx => by
  have := matE_mem 17 hx
  have := h x.f x.t
  exact ⟨by omega, by omega, by omega, by omega⟩
theorem edges_len (c : Caps) : (edgesOf c).length ≤ 289 := matE_len c 17
theorem BndC.upd {c : Caps} (h : BndC c) {a b : Nat} {n : Int} (hn : n ≤ 4611686018427387904) : BndC (upd2 c a b n) := fun x y => by
  unfold upd2
  split
  · exact hn
  · exact h x y
theorem BndC.zero : BndC zeroC := fun _ _ => by show (0 : Int) ≤ _; omega
/-- A graph of the document's. -/
def RgH (W : World) (l : List Thing) (p : Nat) (c : Caps) (w : World) : Prop := ∃ a cc, Heap W (RgT p (.slice a (edgesOf c).length cc) :: FlT (.slice a (edgesOf c).length cc) (edgesOf c).length (edgesOf c) :: l) w
section
variable {ops : Array Oper} {rest : List Oper} {a : Act} {w W : World} {l l' : List Thing} {Q : Exit → Act → World → Prop}
/-- x = Flow{f, t, n}. -/
theorem wpl_storeFlow {dst : Option Tmp} {ty : TypeId} {pos : String} {after : Array Edge} {guard : Option (Nat × Bool)} {x y : Operand} {b : Nat} {f t n f0 t0 n0 : Int} {te : TypeId} (hw : Region.wanted ⟨dst, .store 35 x y, ty, pos, after, guard⟩ (yielded ops a.tmps) = true) (hx : a.eval x = .pointer (some ⟨b, 0, none⟩)) (hy : a.eval y = .agg #[.int .u8 f, .int .u8 t, .int .i64 n])
    (H : Heap W l w) (m : Cel b (flow f0 t0 n0) te ∈ l) (r : Repl l (Cel b (flow f0 t0 n0) te) (Cel b (flow f t n) te) l')
    (h : ∀ w', Heap W l' w' → wpList Try.prog ops Q rest (a.put dst undef) w') : wpList Try.prog ops Q (⟨dst, .store 35 x y, ty, pos, after, guard⟩ :: rest) a w :=
  wpl_storeRH row_flow hw hx hy (flow_cells f t n) H m (by simp [flow_sz]) (flow_splice ..) r h
end
theorem flT_snoc (v : Value) (L : List Flw) (f t : Nat) (n : Int) : FlT v (L ++ [(⟨f, t, n⟩ : Flw)]).length (L ++ [(⟨f, t, n⟩ : Flw)]) = RowT 35 3 v (L.length + 1) (flwL L ++ (flow (f : Int) (t : Int) n).toList) := by
  unfold FlT
  rw [flwL_app, List.length_append]
  rfl
structure SetA (W : World) (l : List Thing) (c : Caps) (v i : Value) (wr : World) : Prop where
  out : ∃ a : Nat, i = .int .u8 (a : Int) ∧ 1 ≤ a ∧ a ≤ 17 ∧ Heap W (FlT v (matE c a).length (matE c a) :: l) wr
structure SetB (W : World) (l : List Thing) (c : Caps) (a : Nat) (v i : Value) (wr : World) : Prop where
  out : ∃ b : Nat, i = .int .u8 (b : Int) ∧ 1 ≤ b ∧ b ≤ 17 ∧ Heap W (FlT v (matE c a ++ rowE c a b).length (matE c a ++ rowE c a b) :: l) wr
section
variable {W w : World} {l : List Thing} {p : Nat}
set_option maxRecDepth 100000
set_option maxHeartbeats 4000000
theorem rset_H (c : Caps) (f t : Nat) (n0 : Int) (hf : mayP f = true) (ht : mayP t = true) (h0 : 0 ≤ n0) (hn0 : n0 ≤ 4611686018427387904) (hc : GoodC c) (hb : BndC c) (H : RgH W l p c w) :
    Calls Try.prog 45 #[.pointer (some ⟨p, 0, none⟩), .int .u8 (f : Int), .int .u8 (t : Int), .int .i64 n0] w fun e w' => e = .returned (.tuple #[]) ∧ RgH W l p (upd2 c f t n0) w' := by
  obtain ⟨a, cc, H⟩ := H
  have hc2 := hc.upd hf ht h0
  have hb2 : BndC (upd2 c f t n0) := hb.upd hn0
  have hf2 := mayP_true hf
  have ht2 := mayP_true ht
  have hle := edges_len c
  have hcap := fun (l' : List Thing) (x y : Nat) (hx : x ≤ 255) (hy : y ≤ 255) (m1 : RgT p (.slice a (edgesOf c).length cc) ∈ l') (m2 : FlT (.slice a (edgesOf c).length cc) (edgesOf c).length (edgesOf c) ∈ l') => rcap_H (W := W) (l := l') x y hx hy m1 m2 rfl (by omega) (edges_ok hb)
  simp only [hc.cap] at hcap
  have hnew : ∀ x y, upd2 c f t n0 x y = if x = f ∧ y = t then n0 else c x y := fun x y => rfl
  generalize upd2 c f t n0 = c' at *
  generalize hE : (edgesOf c).length = N at *
  have HX := Lib.hid (And.intro hc2 (And.intro hb2 hnew))
  have HCAP := Lib.hid hcap
  have HB := Lib.hid hb
  clear hc hb hc2 hb2 hnew hcap hf ht hE
  go_enter Try.func45, Try.ntmps45
  go_wp2_with (go_skip)
  have H0 := H.nilRow 35 3
  clear H
  rw [show (0 : Nat) = (matE c' 1).length by rw [HX.out.1.mat1]; rfl, show ([] : List Value) = flwL (matE c' 1) by rw [HX.out.1.mat1]; rfl] at H0
  go_loopw [8, 9] (fun v i wr => SetA W (RgT p (.slice a N cc) :: FlT (.slice a N cc) N (edgesOf c) :: l) c' v i wr) (fun _ i _ => 17 - (intOf i).toNat)
  case atStart => exact ⟨1, rfl, by omega, by omega, by simpa [HX.out.1.mat1] using H0⟩
  case round =>
    obtain ⟨x, rfl, hx1, hx, H'⟩ := hrel.out
    clear H0 hrel
    have H := H'
    clear H'
    by_cases hlt : x < 17
    · have g1 : decide ((x : Int) ≤ 16) = true := by simp; omega
      go_wp2_with (go_skip)
      have H0 := H
      clear H
      go_loopw [8, 10] (fun v i wr => SetB W (RgT p (.slice a N cc) :: FlT (.slice a N cc) N (edgesOf c) :: l) c' x v i wr) (fun _ i _ => 17 - (intOf i).toNat)
      case atStart => exact ⟨1, rfl, by omega, by omega, by rw [HX.out.1.col0, List.append_nil]; exact H0⟩
      case round =>
        obtain ⟨y, rfl, hy1, hy, H'⟩ := hrel.out
        clear H0 hrel
        have H := H'
        clear H'
        by_cases hlt2 : y < 17
        · have g2 : decide ((y : Int) ≤ 16) = true := by simp; omega
          have hA := HCAP.out (FlT u8 (matE c' x ++ rowE c' x y).length (matE c' x ++ rowE c' x y) :: RgT p (.slice a N cc) :: FlT (.slice a N cc) N (edgesOf c) :: l) x y (by omega) (by omega) (by (repeat (first | (with_reducible exact List.mem_cons_self) | with_reducible apply List.mem_cons_of_mem))) (by (repeat (first | (with_reducible exact List.mem_cons_self) | with_reducible apply List.mem_cons_of_mem)))
          have hlen : (matE c' x ++ rowE c' x y).length ≤ 289 := by have := matE_len c' x; have := rowE_len c' x y; simp only [List.length_append]; omega
          have hb1 := HB.out x y
          have hv := HX.out.2.2 x y
          have HV := Lib.hid hv
          have HR := Lib.hid (show rowE c' x (y + 1) = rowE c' x y ++ if 0 < c' x y then [⟨x, y, c' x y⟩] else [] from rfl)
          generalize c x y = cv at *
          have hn1 : (matE c' x ++ rowE c' x y).length + 1 ≤ maxLen := by unfold maxLen; omega
          have hn2 : ((matE c' x ++ rowE c' x y).length + 1) * 16 ≤ 140737488355328 := by omega
          by_cases hft : x = f ∧ y = t
          · rw [if_pos hft] at hv
            obtain ⟨rfl, rfl⟩ := hft
            have HV2 := Lib.hid hv
            have e1 : ((x : Int) == (x : Int)) = true := by simp
            have e2 : ((y : Int) == (y : Int)) = true := by simp
            clear hv HV
            by_cases hp : 0 < n0
            · skip
              go_wp2_with (first
                | go_skip
                | ((with_reducible refine AnsH.call (by assumption) H ?_); clear H; intro _ H)
                | ((with_reducible show wpList _ _ _ (_ :: _) _ _); (with_reducible apply wpl_allocRH row_flow); (· rfl); (· exact H); (clear H; intro px _ H); (simp only [Act.put, List.setIfInBounds_toArray, List.set_cons_zero, List.set_cons_succ]))
                | ((with_reducible show wpList _ _ _ (_ :: _) _ _); (with_reducible apply wpl_storeFlow); (· rfl); (· rfl); (· rfl); (· exact H); (· (repeat (first | (with_reducible exact List.mem_cons_self) | with_reducible apply List.mem_cons_of_mem))); (· (repeat (first | (with_reducible exact Repl.here) | with_reducible apply Repl.there))); (clear H; intro _ H); (simp only [Act.put, List.setIfInBounds_toArray, List.set_cons_zero, List.set_cons_succ]))
                | ((with_reducible show wpList _ _ _ (_ :: _) _ _); (with_reducible apply wpl_loadCH); (· first | exact cell_party | exact cell_i64); (· rfl); (· rfl); (· exact H); (· (repeat (first | (with_reducible exact List.mem_cons_self) | with_reducible apply List.mem_cons_of_mem))); (· (with_reducible first | exact flow_g0 .. | exact flow_g1 .. | exact flow_g2 ..)); (simp only [Act.put, List.setIfInBounds_toArray, List.set_cons_zero, List.set_cons_succ]))
                | (first | ((with_reducible show wpList _ _ _ (_ :: _) _ _); (with_reducible apply wpl_storeIH); (· first | exact cell_party | exact cell_i64); (· rfl); (· rfl); (· rfl); (· exact H); (· (repeat (first | (with_reducible exact List.mem_cons_self) | with_reducible apply List.mem_cons_of_mem))); (· (simp only [flow_sz, Nat.reduceLT]; done)); (· (with_reducible first | exact flow_s0 .. | exact flow_s1 .. | exact flow_s2 ..)); (· (repeat (first | (with_reducible exact Repl.here) | with_reducible apply Repl.there))); (clear H; intro _ H); (simp only [Act.put, List.setIfInBounds_toArray, List.set_cons_zero, List.set_cons_succ])) | ((with_reducible show wpList _ _ _ (_ :: _) _ _); (with_reducible apply wpl_storeBH); (· first | exact cell_party | exact cell_i64); (· rfl); (· rfl); (· rfl); (· exact H); (· (repeat (first | (with_reducible exact List.mem_cons_self) | with_reducible apply List.mem_cons_of_mem))); (· (simp only [flow_sz, Nat.reduceLT]; done)); (· (with_reducible first | exact flow_s0 .. | exact flow_s1 .. | exact flow_s2 ..)); (· (repeat (first | (with_reducible exact Repl.here) | with_reducible apply Repl.there))); (clear H; intro _ H); (simp only [Act.put, List.setIfInBounds_toArray, List.set_cons_zero, List.set_cons_succ])) | ((with_reducible show wpList _ _ _ (_ :: _) _ _); (with_reducible apply wpl_storeSH); (· first | exact cell_party | exact cell_i64); (· rfl); (· rfl); (· rfl); (· exact H); (· (repeat (first | (with_reducible exact List.mem_cons_self) | with_reducible apply List.mem_cons_of_mem))); (· (simp only [flow_sz, Nat.reduceLT]; done)); (· (with_reducible first | exact flow_s0 .. | exact flow_s1 .. | exact flow_s2 ..)); (· (repeat (first | (with_reducible exact Repl.here) | with_reducible apply Repl.there))); (clear H; intro _ H); (simp only [Act.put, List.setIfInBounds_toArray, List.set_cons_zero, List.set_cons_succ])) | ((with_reducible show wpList _ _ _ (_ :: _) _ _); (with_reducible apply wpl_storePH); (· first | exact cell_party | exact cell_i64); (· rfl); (· rfl); (· rfl); (· exact H); (· (repeat (first | (with_reducible exact List.mem_cons_self) | with_reducible apply List.mem_cons_of_mem))); (· (simp only [flow_sz, Nat.reduceLT]; done)); (· (with_reducible first | exact flow_s0 .. | exact flow_s1 .. | exact flow_s2 ..)); (· (repeat (first | (with_reducible exact Repl.here) | with_reducible apply Repl.there))); (clear H; intro _ H); (simp only [Act.put, List.setIfInBounds_toArray, List.set_cons_zero, List.set_cons_succ])))
                | ((with_reducible show wpList _ _ _ (_ :: _) _ _); (with_reducible apply wpl_loadRH row_flow); (· rfl); (· rfl); (· exact H); (· (repeat (first | (with_reducible exact List.mem_cons_self) | with_reducible apply List.mem_cons_of_mem))); (· (simp only [flow_sz, Nat.reduceAdd, Nat.reduceLeDiff, Nat.le_refl]; done)); (· with_reducible exact flow_all ..); (simp only [Act.put, List.setIfInBounds_toArray, List.set_cons_zero, List.set_cons_succ]))
                | ((with_reducible show wpList _ _ _ (_ :: _) _ _); (with_reducible apply wpl_bsRH); (· rfl); (· rfl); (· exact bs_flow); (· exact rfl); (· exact H); (clear H; intro pf _ H); (simp only [Act.put, List.setIfInBounds_toArray, List.set_cons_zero, List.set_cons_succ]))
                | ((with_reducible show wpList _ _ _ (_ :: _) _ _); (with_reducible apply wpl_appendH slF); (· rfl); (· rfl); (· rfl); (· rfl); (· exact H.pull (.there (.there .here))); (· exact H.celRd List.mem_cons_self); (· rfl); (· exact flowC_one _ _ _); (· exact hn1); (· exact hn2); (clear H; intro v2 _ H); (simp only [Act.put, List.setIfInBounds_toArray, List.set_cons_zero, List.set_cons_succ])))
              go_roundw
              case rel =>
                refine ⟨⟨y + 1, by go_num, by omega, by omega, ?_⟩⟩
                have e : matE c' x ++ rowE c' x (y + 1) = (matE c' x ++ rowE c' x y) ++ [⟨x, y, n0⟩] := by rw [HR.out, HV2.out, if_pos hp, List.append_assoc]
                rw [e, flT_snoc]
                exact (H.drop (.there .here)).drop (.there .here)
              case measure => simp [intOf]; omega
            · skip
              go_wp2_with (first
                | go_skip
                | ((with_reducible refine AnsH.call (by assumption) H ?_); clear H; intro _ H)
                | ((with_reducible show wpList _ _ _ (_ :: _) _ _); (with_reducible apply wpl_allocRH row_flow); (· rfl); (· exact H); (clear H; intro px _ H); (simp only [Act.put, List.setIfInBounds_toArray, List.set_cons_zero, List.set_cons_succ]))
                | ((with_reducible show wpList _ _ _ (_ :: _) _ _); (with_reducible apply wpl_storeFlow); (· rfl); (· rfl); (· rfl); (· exact H); (· (repeat (first | (with_reducible exact List.mem_cons_self) | with_reducible apply List.mem_cons_of_mem))); (· (repeat (first | (with_reducible exact Repl.here) | with_reducible apply Repl.there))); (clear H; intro _ H); (simp only [Act.put, List.setIfInBounds_toArray, List.set_cons_zero, List.set_cons_succ]))
                | ((with_reducible show wpList _ _ _ (_ :: _) _ _); (with_reducible apply wpl_loadCH); (· first | exact cell_party | exact cell_i64); (· rfl); (· rfl); (· exact H); (· (repeat (first | (with_reducible exact List.mem_cons_self) | with_reducible apply List.mem_cons_of_mem))); (· (with_reducible first | exact flow_g0 .. | exact flow_g1 .. | exact flow_g2 ..)); (simp only [Act.put, List.setIfInBounds_toArray, List.set_cons_zero, List.set_cons_succ]))
                | (first | ((with_reducible show wpList _ _ _ (_ :: _) _ _); (with_reducible apply wpl_storeIH); (· first | exact cell_party | exact cell_i64); (· rfl); (· rfl); (· rfl); (· exact H); (· (repeat (first | (with_reducible exact List.mem_cons_self) | with_reducible apply List.mem_cons_of_mem))); (· (simp only [flow_sz, Nat.reduceLT]; done)); (· (with_reducible first | exact flow_s0 .. | exact flow_s1 .. | exact flow_s2 ..)); (· (repeat (first | (with_reducible exact Repl.here) | with_reducible apply Repl.there))); (clear H; intro _ H); (simp only [Act.put, List.setIfInBounds_toArray, List.set_cons_zero, List.set_cons_succ])) | ((with_reducible show wpList _ _ _ (_ :: _) _ _); (with_reducible apply wpl_storeBH); (· first | exact cell_party | exact cell_i64); (· rfl); (· rfl); (· rfl); (· exact H); (· (repeat (first | (with_reducible exact List.mem_cons_self) | with_reducible apply List.mem_cons_of_mem))); (· (simp only [flow_sz, Nat.reduceLT]; done)); (· (with_reducible first | exact flow_s0 .. | exact flow_s1 .. | exact flow_s2 ..)); (· (repeat (first | (with_reducible exact Repl.here) | with_reducible apply Repl.there))); (clear H; intro _ H); (simp only [Act.put, List.setIfInBounds_toArray, List.set_cons_zero, List.set_cons_succ])) | ((with_reducible show wpList _ _ _ (_ :: _) _ _); (with_reducible apply wpl_storeSH); (· first | exact cell_party | exact cell_i64); (· rfl); (· rfl); (· rfl); (· exact H); (· (repeat (first | (with_reducible exact List.mem_cons_self) | with_reducible apply List.mem_cons_of_mem))); (· (simp only [flow_sz, Nat.reduceLT]; done)); (· (with_reducible first | exact flow_s0 .. | exact flow_s1 .. | exact flow_s2 ..)); (· (repeat (first | (with_reducible exact Repl.here) | with_reducible apply Repl.there))); (clear H; intro _ H); (simp only [Act.put, List.setIfInBounds_toArray, List.set_cons_zero, List.set_cons_succ])) | ((with_reducible show wpList _ _ _ (_ :: _) _ _); (with_reducible apply wpl_storePH); (· first | exact cell_party | exact cell_i64); (· rfl); (· rfl); (· rfl); (· exact H); (· (repeat (first | (with_reducible exact List.mem_cons_self) | with_reducible apply List.mem_cons_of_mem))); (· (simp only [flow_sz, Nat.reduceLT]; done)); (· (with_reducible first | exact flow_s0 .. | exact flow_s1 .. | exact flow_s2 ..)); (· (repeat (first | (with_reducible exact Repl.here) | with_reducible apply Repl.there))); (clear H; intro _ H); (simp only [Act.put, List.setIfInBounds_toArray, List.set_cons_zero, List.set_cons_succ])))
                | ((with_reducible show wpList _ _ _ (_ :: _) _ _); (with_reducible apply wpl_loadRH row_flow); (· rfl); (· rfl); (· exact H); (· (repeat (first | (with_reducible exact List.mem_cons_self) | with_reducible apply List.mem_cons_of_mem))); (· (simp only [flow_sz, Nat.reduceAdd, Nat.reduceLeDiff, Nat.le_refl]; done)); (· with_reducible exact flow_all ..); (simp only [Act.put, List.setIfInBounds_toArray, List.set_cons_zero, List.set_cons_succ]))
                | ((with_reducible show wpList _ _ _ (_ :: _) _ _); (with_reducible apply wpl_bsRH); (· rfl); (· rfl); (· exact bs_flow); (· exact rfl); (· exact H); (clear H; intro pf _ H); (simp only [Act.put, List.setIfInBounds_toArray, List.set_cons_zero, List.set_cons_succ]))
                | ((with_reducible show wpList _ _ _ (_ :: _) _ _); (with_reducible apply wpl_appendH slF); (· rfl); (· rfl); (· rfl); (· rfl); (· exact H.pull (.there (.there .here))); (· exact H.celRd List.mem_cons_self); (· rfl); (· exact flowC_one _ _ _); (· exact hn1); (· exact hn2); (clear H; intro v2 _ H); (simp only [Act.put, List.setIfInBounds_toArray, List.set_cons_zero, List.set_cons_succ])))
              refine ⟨?_, ?_⟩
              · refine ⟨⟨y + 1, by go_num, by omega, by omega, ?_⟩⟩
                have e : rowE c' x (y + 1) = rowE c' x y := by rw [HR.out, HV2.out, if_neg (by omega), List.append_nil]
                rw [e]
                exact H.tail
              · simp [intOf]; omega
          · rw [if_neg hft] at hv
            have HV2 := Lib.hid hv
            clear hv HV
            have hcase : ((x : Int) == (f : Int)) = false ∨ (((x : Int) == (f : Int)) = true ∧ ((y : Int) == (t : Int)) = false) := by
              by_cases e : x = f
              · subst e
                refine .inr ⟨by simp, ?_⟩
                have : y ≠ t := fun e2 => hft ⟨rfl, e2⟩
                simp; omega
              · exact .inl (by simp; omega)
            clear hft
            by_cases hp : 0 < cv
            · rcases hcase with e1 | ⟨e1, e2⟩
              all_goals
                go_wp2_with (first
                  | go_skip
                  | ((with_reducible refine AnsH.call (by assumption) H ?_); clear H; intro _ H)
                  | ((with_reducible show wpList _ _ _ (_ :: _) _ _); (with_reducible apply wpl_allocRH row_flow); (· rfl); (· exact H); (clear H; intro px _ H); (simp only [Act.put, List.setIfInBounds_toArray, List.set_cons_zero, List.set_cons_succ]))
                  | ((with_reducible show wpList _ _ _ (_ :: _) _ _); (with_reducible apply wpl_storeFlow); (· rfl); (· rfl); (· rfl); (· exact H); (· (repeat (first | (with_reducible exact List.mem_cons_self) | with_reducible apply List.mem_cons_of_mem))); (· (repeat (first | (with_reducible exact Repl.here) | with_reducible apply Repl.there))); (clear H; intro _ H); (simp only [Act.put, List.setIfInBounds_toArray, List.set_cons_zero, List.set_cons_succ]))
                  | ((with_reducible show wpList _ _ _ (_ :: _) _ _); (with_reducible apply wpl_loadCH); (· first | exact cell_party | exact cell_i64); (· rfl); (· rfl); (· exact H); (· (repeat (first | (with_reducible exact List.mem_cons_self) | with_reducible apply List.mem_cons_of_mem))); (· (with_reducible first | exact flow_g0 .. | exact flow_g1 .. | exact flow_g2 ..)); (simp only [Act.put, List.setIfInBounds_toArray, List.set_cons_zero, List.set_cons_succ]))
                  | (first | ((with_reducible show wpList _ _ _ (_ :: _) _ _); (with_reducible apply wpl_storeIH); (· first | exact cell_party | exact cell_i64); (· rfl); (· rfl); (· rfl); (· exact H); (· (repeat (first | (with_reducible exact List.mem_cons_self) | with_reducible apply List.mem_cons_of_mem))); (· (simp only [flow_sz, Nat.reduceLT]; done)); (· (with_reducible first | exact flow_s0 .. | exact flow_s1 .. | exact flow_s2 ..)); (· (repeat (first | (with_reducible exact Repl.here) | with_reducible apply Repl.there))); (clear H; intro _ H); (simp only [Act.put, List.setIfInBounds_toArray, List.set_cons_zero, List.set_cons_succ])) | ((with_reducible show wpList _ _ _ (_ :: _) _ _); (with_reducible apply wpl_storeBH); (· first | exact cell_party | exact cell_i64); (· rfl); (· rfl); (· rfl); (· exact H); (· (repeat (first | (with_reducible exact List.mem_cons_self) | with_reducible apply List.mem_cons_of_mem))); (· (simp only [flow_sz, Nat.reduceLT]; done)); (· (with_reducible first | exact flow_s0 .. | exact flow_s1 .. | exact flow_s2 ..)); (· (repeat (first | (with_reducible exact Repl.here) | with_reducible apply Repl.there))); (clear H; intro _ H); (simp only [Act.put, List.setIfInBounds_toArray, List.set_cons_zero, List.set_cons_succ])) | ((with_reducible show wpList _ _ _ (_ :: _) _ _); (with_reducible apply wpl_storeSH); (· first | exact cell_party | exact cell_i64); (· rfl); (· rfl); (· rfl); (· exact H); (· (repeat (first | (with_reducible exact List.mem_cons_self) | with_reducible apply List.mem_cons_of_mem))); (· (simp only [flow_sz, Nat.reduceLT]; done)); (· (with_reducible first | exact flow_s0 .. | exact flow_s1 .. | exact flow_s2 ..)); (· (repeat (first | (with_reducible exact Repl.here) | with_reducible apply Repl.there))); (clear H; intro _ H); (simp only [Act.put, List.setIfInBounds_toArray, List.set_cons_zero, List.set_cons_succ])) | ((with_reducible show wpList _ _ _ (_ :: _) _ _); (with_reducible apply wpl_storePH); (· first | exact cell_party | exact cell_i64); (· rfl); (· rfl); (· rfl); (· exact H); (· (repeat (first | (with_reducible exact List.mem_cons_self) | with_reducible apply List.mem_cons_of_mem))); (· (simp only [flow_sz, Nat.reduceLT]; done)); (· (with_reducible first | exact flow_s0 .. | exact flow_s1 .. | exact flow_s2 ..)); (· (repeat (first | (with_reducible exact Repl.here) | with_reducible apply Repl.there))); (clear H; intro _ H); (simp only [Act.put, List.setIfInBounds_toArray, List.set_cons_zero, List.set_cons_succ])))
                  | ((with_reducible show wpList _ _ _ (_ :: _) _ _); (with_reducible apply wpl_loadRH row_flow); (· rfl); (· rfl); (· exact H); (· (repeat (first | (with_reducible exact List.mem_cons_self) | with_reducible apply List.mem_cons_of_mem))); (· (simp only [flow_sz, Nat.reduceAdd, Nat.reduceLeDiff, Nat.le_refl]; done)); (· with_reducible exact flow_all ..); (simp only [Act.put, List.setIfInBounds_toArray, List.set_cons_zero, List.set_cons_succ]))
                  | ((with_reducible show wpList _ _ _ (_ :: _) _ _); (with_reducible apply wpl_bsRH); (· rfl); (· rfl); (· exact bs_flow); (· exact rfl); (· exact H); (clear H; intro pf _ H); (simp only [Act.put, List.setIfInBounds_toArray, List.set_cons_zero, List.set_cons_succ]))
                  | ((with_reducible show wpList _ _ _ (_ :: _) _ _); (with_reducible apply wpl_appendH slF); (· rfl); (· rfl); (· rfl); (· rfl); (· exact H.pull (.there (.there .here))); (· exact H.celRd List.mem_cons_self); (· rfl); (· exact flowC_one _ _ _); (· exact hn1); (· exact hn2); (clear H; intro v2 _ H); (simp only [Act.put, List.setIfInBounds_toArray, List.set_cons_zero, List.set_cons_succ])))
                go_roundw
                case rel =>
                  refine ⟨⟨y + 1, by go_num, by omega, by omega, ?_⟩⟩
                  have e : matE c' x ++ rowE c' x (y + 1) = (matE c' x ++ rowE c' x y) ++ [⟨x, y, cv⟩] := by rw [HR.out, HV2.out, if_pos hp, List.append_assoc]
                  rw [e, flT_snoc]
                  exact (H.drop (.there .here)).drop (.there .here)
                case measure => simp [intOf]; omega
            · rcases hcase with e1 | ⟨e1, e2⟩
              all_goals
                go_wp2_with (first
                  | go_skip
                  | ((with_reducible refine AnsH.call (by assumption) H ?_); clear H; intro _ H)
                  | ((with_reducible show wpList _ _ _ (_ :: _) _ _); (with_reducible apply wpl_allocRH row_flow); (· rfl); (· exact H); (clear H; intro px _ H); (simp only [Act.put, List.setIfInBounds_toArray, List.set_cons_zero, List.set_cons_succ]))
                  | ((with_reducible show wpList _ _ _ (_ :: _) _ _); (with_reducible apply wpl_storeFlow); (· rfl); (· rfl); (· rfl); (· exact H); (· (repeat (first | (with_reducible exact List.mem_cons_self) | with_reducible apply List.mem_cons_of_mem))); (· (repeat (first | (with_reducible exact Repl.here) | with_reducible apply Repl.there))); (clear H; intro _ H); (simp only [Act.put, List.setIfInBounds_toArray, List.set_cons_zero, List.set_cons_succ]))
                  | ((with_reducible show wpList _ _ _ (_ :: _) _ _); (with_reducible apply wpl_loadCH); (· first | exact cell_party | exact cell_i64); (· rfl); (· rfl); (· exact H); (· (repeat (first | (with_reducible exact List.mem_cons_self) | with_reducible apply List.mem_cons_of_mem))); (· (with_reducible first | exact flow_g0 .. | exact flow_g1 .. | exact flow_g2 ..)); (simp only [Act.put, List.setIfInBounds_toArray, List.set_cons_zero, List.set_cons_succ]))
                  | (first | ((with_reducible show wpList _ _ _ (_ :: _) _ _); (with_reducible apply wpl_storeIH); (· first | exact cell_party | exact cell_i64); (· rfl); (· rfl); (· rfl); (· exact H); (· (repeat (first | (with_reducible exact List.mem_cons_self) | with_reducible apply List.mem_cons_of_mem))); (· (simp only [flow_sz, Nat.reduceLT]; done)); (· (with_reducible first | exact flow_s0 .. | exact flow_s1 .. | exact flow_s2 ..)); (· (repeat (first | (with_reducible exact Repl.here) | with_reducible apply Repl.there))); (clear H; intro _ H); (simp only [Act.put, List.setIfInBounds_toArray, List.set_cons_zero, List.set_cons_succ])) | ((with_reducible show wpList _ _ _ (_ :: _) _ _); (with_reducible apply wpl_storeBH); (· first | exact cell_party | exact cell_i64); (· rfl); (· rfl); (· rfl); (· exact H); (· (repeat (first | (with_reducible exact List.mem_cons_self) | with_reducible apply List.mem_cons_of_mem))); (· (simp only [flow_sz, Nat.reduceLT]; done)); (· (with_reducible first | exact flow_s0 .. | exact flow_s1 .. | exact flow_s2 ..)); (· (repeat (first | (with_reducible exact Repl.here) | with_reducible apply Repl.there))); (clear H; intro _ H); (simp only [Act.put, List.setIfInBounds_toArray, List.set_cons_zero, List.set_cons_succ])) | ((with_reducible show wpList _ _ _ (_ :: _) _ _); (with_reducible apply wpl_storeSH); (· first | exact cell_party | exact cell_i64); (· rfl); (· rfl); (· rfl); (· exact H); (· (repeat (first | (with_reducible exact List.mem_cons_self) | with_reducible apply List.mem_cons_of_mem))); (· (simp only [flow_sz, Nat.reduceLT]; done)); (· (with_reducible first | exact flow_s0 .. | exact flow_s1 .. | exact flow_s2 ..)); (· (repeat (first | (with_reducible exact Repl.here) | with_reducible apply Repl.there))); (clear H; intro _ H); (simp only [Act.put, List.setIfInBounds_toArray, List.set_cons_zero, List.set_cons_succ])) | ((with_reducible show wpList _ _ _ (_ :: _) _ _); (with_reducible apply wpl_storePH); (· first | exact cell_party | exact cell_i64); (· rfl); (· rfl); (· rfl); (· exact H); (· (repeat (first | (with_reducible exact List.mem_cons_self) | with_reducible apply List.mem_cons_of_mem))); (· (simp only [flow_sz, Nat.reduceLT]; done)); (· (with_reducible first | exact flow_s0 .. | exact flow_s1 .. | exact flow_s2 ..)); (· (repeat (first | (with_reducible exact Repl.here) | with_reducible apply Repl.there))); (clear H; intro _ H); (simp only [Act.put, List.setIfInBounds_toArray, List.set_cons_zero, List.set_cons_succ])))
                  | ((with_reducible show wpList _ _ _ (_ :: _) _ _); (with_reducible apply wpl_loadRH row_flow); (· rfl); (· rfl); (· exact H); (· (repeat (first | (with_reducible exact List.mem_cons_self) | with_reducible apply List.mem_cons_of_mem))); (· (simp only [flow_sz, Nat.reduceAdd, Nat.reduceLeDiff, Nat.le_refl]; done)); (· with_reducible exact flow_all ..); (simp only [Act.put, List.setIfInBounds_toArray, List.set_cons_zero, List.set_cons_succ]))
                  | ((with_reducible show wpList _ _ _ (_ :: _) _ _); (with_reducible apply wpl_bsRH); (· rfl); (· rfl); (· exact bs_flow); (· exact rfl); (· exact H); (clear H; intro pf _ H); (simp only [Act.put, List.setIfInBounds_toArray, List.set_cons_zero, List.set_cons_succ]))
                  | ((with_reducible show wpList _ _ _ (_ :: _) _ _); (with_reducible apply wpl_appendH slF); (· rfl); (· rfl); (· rfl); (· rfl); (· exact H.pull (.there (.there .here))); (· exact H.celRd List.mem_cons_self); (· rfl); (· exact flowC_one _ _ _); (· exact hn1); (· exact hn2); (clear H; intro v2 _ H); (simp only [Act.put, List.setIfInBounds_toArray, List.set_cons_zero, List.set_cons_succ])))
                refine ⟨?_, ?_⟩
                · refine ⟨⟨y + 1, by go_num, by omega, by omega, ?_⟩⟩
                  have e : rowE c' x (y + 1) = rowE c' x y := by rw [HR.out, HV2.out, if_neg (by omega), List.append_nil]
                  rw [e]
                  exact H.tail
                · simp [intOf]; omega
        · obtain rfl : y = 17 := by omega
          have g2 : decide (((17 : Nat) : Int) ≤ 16) = false := by decide
          go_wp2_with (go_skip)
          go_roundw
          case rel => exact ⟨⟨x + 1, by go_num, by omega, by omega, H⟩⟩
          case measure => simp [intOf]; omega
    · obtain rfl : x = 17 := by omega
      obtain ⟨a2, c2, rfl, _, _⟩ := rowT_form (H.ok _ List.mem_cons_self)
      have H2 : Heap W (FlT (.slice a2 (edgesOf c').length c2) (edgesOf c').length (edgesOf c') :: RgT p (.slice a N cc) :: FlT (.slice a N cc) N (edgesOf c) :: l) wr := H
      clear H
      have H := H2
      clear H2
      rw [show (matE c' 17).length = (edgesOf c').length from rfl]
      generalize hN2 : (edgesOf c').length = N2 at *
      have HN2 := Lib.hid hN2
      clear hN2
      go_wp2_with (first
        | go_skip
        | ((with_reducible show wpList _ _ _ (_ :: _) _ _); (with_reducible apply wpl_storeSH); (· exact cell_flows); (· rfl); (· rfl); (· rfl); (· exact H); (· (repeat (first | (with_reducible exact List.mem_cons_self) | with_reducible apply List.mem_cons_of_mem))); (· exact Nat.le_refl 1); (· rfl); (· (repeat (first | (with_reducible exact Repl.here) | with_reducible apply Repl.there))); (clear H; intro _ H); (simp only [Act.put, List.setIfInBounds_toArray, List.set_cons_zero, List.set_cons_succ])))
      go_end0
      have H3 := (H.drop (.there (.there .here))).perm (.swap _ _ _)
      rw [← HN2.out] at H3
      exact ⟨rfl, a2, c2, H3⟩
end
end Go.Proofs.Ytglehneaphigdaa

/- countinghouseref05.New. -/
namespace Go.Proofs.Ytglehneaphigdaa
open Go.RowKit
set_option linter.unusedSimpArgs false
set_option linter.unusedVariables false
def RNewPost (W : World) (l : List Thing) (F : List Flw) (e : Ending) (w' : World) : Prop :=
  (newG F = none ∧ e = .returned (.tuple #[.pointer none, .int .i64 1]) ∧ Heap W l w') ∨ (∃ c p, newG F = some c ∧ e = .returned (.tuple #[.pointer (some ⟨p, 0, none⟩), .int .i64 0]) ∧ GoodC c ∧ BndC c ∧ RgH W l p c w')
theorem edges_zero0 : edgesOf zeroC = [] := List.eq_nil_of_length_eq_zero (by decide +kernel)
theorem RgH.new {W w : World} {l : List Thing} {p : Nat} (H : Heap W (RgT p (.slice none 0 0) :: l) w) : RgH W l p zeroC w := by
  refine ⟨none, 0, ?_⟩
  rw [edges_zero0]
  exact (H.nilRow _ _).perm (.swap _ _ _)
def endsB (a b : Nat) (x : Flw) : Bool := decide (x.f = a ∧ x.t = b)
structure RN (W : World) (l : List Thing) (p : Nat) (F : List Flw) (en : Nat) (i : Value) (wr : World) : Prop where
  out : ∃ (k : Nat) (t : Nat → Nat → Bool) (c : Caps), i = .int .i64 (k : Int) ∧ k ≤ en ∧ newG F = newS (F.drop k) t c ∧ (∀ a b, t a b = (F.take k).any (endsB a b)) ∧ GoodC c ∧ BndC c ∧ RgH W l p c wr
structure RN2 (W : World) (l : List Thing) (F : List Flw) (a b n : Nat) (i : Value) (wr : World) : Prop where
  out : ∃ k : Nat, i = .int .i64 (k : Int) ∧ k ≤ n ∧ (F.take k).any (endsB a b) = false ∧ Heap W l wr
theorem row_rg : RowTy 42 1 (rgC (.slice none 0 0)) := ⟨⟨_, Try.underlying42, rfl⟩, by kernel_rfl, by kernel_rfl⟩
theorem any_mono {F : List Flw} {f : Flw → Bool} {k n : Nat} (h : k ≤ n) (h2 : (F.take k).any f = true) : (F.take n).any f = true := by
  rw [List.any_eq_true] at *
  obtain ⟨x, hx, hf⟩ := h2
  refine ⟨x, ?_, hf⟩
  have : F.take k = (F.take n).take k := by rw [List.take_take, Nat.min_eq_left h]
  rw [this] at hx
  exact List.mem_of_mem_take hx
section
variable {W w : World} {l : List Thing}
set_option maxRecDepth 100000
set_option maxHeartbeats 4000000
theorem rnew_H (ea : Option Addr) (en ec : Nat) (F : List Flw) (hl : F.length = en) (hn : en ≤ 1000000) (hF : ∀ x ∈ F, FlwOk x) (R : ∀ l' w', (∀ x ∈ l, x ∈ l') → Heap W l' w' → Rd w' ea (flwL F)) (H : Heap W l w) :
    Calls Try.prog 15 #[.slice ea en ec] w (RNewPost W l F) := by
  have HL := Lib.hid hl
  have HF := Lib.hid hF
  have HR := Lib.hid R
  clear hl hF R
  go_enter Try.func15, Try.ntmps15
  go_wp2_with (first | go_skip | ((with_reducible show wpList _ _ _ (_ :: _) _ _); (with_reducible apply wpl_boxRH); (· rfl); (· rfl); (· exact H); (clear H; intro p _ H); (simp only [Act.put, List.setIfInBounds_toArray, List.set_cons_zero, List.set_cons_succ])))
  have H0 := RgH.new H
  clear H
  go_loopw [5] (fun i wr => RN W l p F en i wr) (fun i _ => en - (intOf i).toNat)
  case atStart => exact ⟨0, fun _ _ => false, zeroC, rfl, by omega, rfl, fun _ _ => rfl, GoodC.zero, BndC.zero, H0⟩
  case round =>
    obtain ⟨k, t, c, rfl, hk, hG, ht, hgc, hbc, H'⟩ := hrel.out
    clear H0 hrel
    by_cases hlt : k < en
    · have hkF : k < F.length := by rw [HL.out]; exact hlt
      have hok := HF.out F[k] (List.getElem_mem hkF)
      have hat := flwL_at F k hkF
      have hx : F[k]? = some F[k] := List.getElem?_eq_getElem hkF
      have hlen : k * 3 + 3 ≤ (flwL F).length := by rw [flwL_len]; omega
      have htk : F.take (k + 1) = F.take k ++ [F[k]] := by rw [List.take_add_one, hx]; rfl
      rw [List.drop_eq_getElem_cons hkF] at hG
      generalize F[k] = x at *
      obtain ⟨a, b, n⟩ := x
      obtain ⟨o1, o2, o3, o4⟩ := hok
      simp only at o1 o2 o3 o4
      have hrow : (((flwL F).drop (k * 3)).take 3).toArray = flow a b n := by rw [hat]; rfl
      obtain ⟨ra, rcc, H⟩ := H'
      obtain ⟨eb, eo, rfl, _⟩ := (HR.out _ _ (fun x hx => List.mem_cons_of_mem _ (List.mem_cons_of_mem _ hx)) H).lt (by omega)
      have HTK := Lib.hid htk
      have HT := Lib.hid ht
      have HGB := Lib.hid (And.intro hgc hbc)
      clear hat hkF hx htk ht hgc hbc
      generalize hNE : (edgesOf c).length = NE at *
      have HNE := Lib.hid hNE
      clear hNE
      by_cases hb : edgeB ⟨a, b, n⟩ = true
      · have hb2 := hb
        unfold edgeB mayP at hb2
        simp at hb2
        have hma : mayP a = true := by unfold mayP; simp; omega
        have hmb : mayP b = true := by unfold mayP; simp; omega
        have g1 : decide ((a : Int) < 1) = false := by simp; omega
        have g2 : decide ((a : Int) > 16) = false := by simp; omega
        have g3 : decide ((b : Int) < 1) = false := by simp; omega
        have g4 : decide ((b : Int) > 16) = false := by simp; omega
        have g5 : ((a : Int) == (b : Int)) = false := by simp; omega
        have g6 : decide (n < 0) = false := by simp; omega
        have g7 : decide (n > 2199023255552) = false := by simp; omega
        have n0 : 0 ≤ n := by omega
        have n1 : n ≤ 4611686018427387904 := by omega
        have HB := Lib.hid hb
        have HG := Lib.hid hG
        have HM := Lib.hid (And.intro hma hmb)
        clear hb hb2 hG hma hmb
        go_wp2_with (first
          | go_skip
          | ((with_reducible show wpList _ _ _ (_ :: _) _ _); (with_reducible apply wpl_loadRdR row_flow); (· rfl); (· rfl); (· exact HR.out _ _ (fun x hx => by (repeat (first | (with_reducible exact hx) | with_reducible apply List.mem_cons_of_mem))) H); (· rfl); (· exact hlen); (· decide); (· exact hrow); (simp only [Act.put, List.setIfInBounds_toArray, List.set_cons_zero, List.set_cons_succ]))
          | ((with_reducible show wpList _ _ _ (_ :: _) _ _); (with_reducible apply wpl_allocRH row_flow); (· rfl); (· exact H); (clear H; intro px _ H); (simp only [Act.put, List.setIfInBounds_toArray, List.set_cons_zero, List.set_cons_succ]))
          | ((with_reducible show wpList _ _ _ (_ :: _) _ _); (with_reducible apply wpl_storeRH row_flow); (· rfl); (· rfl); (· rfl); (· with_reducible exact flow_cells ..); (· exact H); (· (repeat (first | (with_reducible exact List.mem_cons_self) | with_reducible apply List.mem_cons_of_mem))); (· (simp only [flow_sz, Nat.reduceAdd, Nat.reduceLeDiff, Nat.le_refl]; done)); (· with_reducible exact flow_splice ..); (· (repeat (first | (with_reducible exact Repl.here) | with_reducible apply Repl.there))); (clear H; intro _ H); (simp only [Act.put, List.setIfInBounds_toArray, List.set_cons_zero, List.set_cons_succ]))
          | ((with_reducible show wpList _ _ _ (_ :: _) _ _); (with_reducible apply wpl_loadCH); (· first | exact cell_party | exact cell_i64); (· rfl); (· rfl); (· exact H); (· (repeat (first | (with_reducible exact List.mem_cons_self) | with_reducible apply List.mem_cons_of_mem))); (· (with_reducible first | exact flow_g0 .. | exact flow_g1 .. | exact flow_g2 ..)); (simp only [Act.put, List.setIfInBounds_toArray, List.set_cons_zero, List.set_cons_succ])))
        have H0 := H
        clear H
        go_loopw [7] (fun i wr => RN2 W (Cel px (flow a b n) 35 :: RgT p (.slice ra NE rcc) :: FlT (.slice ra NE rcc) NE (edgesOf c) :: l) F a b k i wr) (fun i _ => k - (intOf i).toNat)
        case atStart => exact ⟨0, rfl, by omega, rfl, H0⟩
        case round =>
          obtain ⟨j, rfl, hj, hno, H'⟩ := hrel.out
          clear H0 hrel
          have H := H'
          clear H'
          by_cases hlt2 : j < k
          · have hjF : j < F.length := by rw [HL.out]; omega
            have hy : F[j]? = some F[j] := List.getElem?_eq_getElem hjF
            have hoky := HF.out F[j] (List.getElem_mem hjF)
            have htj : F.take (j + 1) = F.take j ++ [F[j]] := by rw [List.take_add_one, hy]; rfl
            generalize F[j] = y at *
            have HC := Lib.hid (show ∀ w', Heap W (Cel px (flow a b n) 35 :: RgT p (.slice ra NE rcc) :: FlT (.slice ra NE rcc) NE (edgesOf c) :: l) w' → _ from fun w' h => flwL_rd (HR.out _ w' (fun x hx => by (repeat (first | (with_reducible exact hx) | with_reducible apply List.mem_cons_of_mem))) h) hy)
            obtain ⟨yf, yt, yn⟩ := y
            obtain ⟨q1, q2, q3, q4⟩ := hoky
            simp only at q1 q2 q3 q4
            have HTJ := Lib.hid htj
            have HNO := Lib.hid hno
            have jn : j < en := by omega
            clear hjF hy htj hno
            by_cases hsame : yf = a ∧ yt = b
            · obtain ⟨rfl, rfl⟩ := hsame
              have e1 : ((yf : Int) == (yf : Int)) = true := by simp
              have e2 : ((yt : Int) == (yt : Int)) = true := by simp
              go_wp2_with (go_skip)
              refine wp_region_H H (by kernel_rfl) (by kernel_rfl) ?_
              repeat (first | go_big_quiet_skip | ((with_reducible apply wpQ_loadCH); (· first | exact cell_party | exact cell_i64); (· rfl); (· rfl); (· (repeat (first | (with_reducible exact List.mem_cons_self) | with_reducible apply List.mem_cons_of_mem))); (· (with_reducible first | exact flow_g0 .. | exact flow_g1 .. | exact flow_g2 ..)); (simp only [Act.put, List.setIfInBounds_toArray, List.set_cons_zero, List.set_cons_succ])) | ((with_reducible apply wpQ_loadAt); (· first | exact cell_party | exact cell_i64); (· rfl); (· rfl); (· first | exact fun w' h => (HC.out w' h).1 | exact fun w' h => (HC.out w' h).2.1); (simp only [Act.put, List.setIfInBounds_toArray, List.set_cons_zero, List.set_cons_succ])) | go_big_quiet_step (fail))
              refine wpQuiet_nil ?_
              clear H
              intro _ H
              go_wp2_with (go_skip)
              go_ret2
              refine .inl ⟨?_, rfl, H.tail.tail.tail⟩
              rw [HG.out, newS_no]
              have : t yf yt = true := by
                rw [HT.out]
                refine any_mono (k := j + 1) (by omega) ?_
                rw [HTJ.out, List.any_append]
                simp [endsB]
              rw [this]
              simp
            · have hcase : ((yf : Int) == (a : Int)) = false ∨ (((yf : Int) == (a : Int)) = true ∧ ((yt : Int) == (b : Int)) = false) := by
                by_cases e : yf = a
                · subst e
                  refine .inr ⟨by simp, ?_⟩
                  have : yt ≠ b := fun e2 => hsame ⟨rfl, e2⟩
                  simp; omega
                · exact .inl (by simp; omega)
              have HS := Lib.hid (show (F.take (j + 1)).any (endsB a b) = false by
                rw [HTJ.out, List.any_append, HNO.out]
                simp [endsB]
                intro e1 e2
                exact hsame ⟨e1, e2⟩)
              clear hsame
              rcases hcase with e1 | ⟨e1, e2⟩
              all_goals
                go_wp2_with (go_skip)
                refine wp_region_H H (by kernel_rfl) (by kernel_rfl) ?_
                repeat (first | go_big_quiet_skip | ((with_reducible apply wpQ_loadCH); (· first | exact cell_party | exact cell_i64); (· rfl); (· rfl); (· (repeat (first | (with_reducible exact List.mem_cons_self) | with_reducible apply List.mem_cons_of_mem))); (· (with_reducible first | exact flow_g0 .. | exact flow_g1 .. | exact flow_g2 ..)); (simp only [Act.put, List.setIfInBounds_toArray, List.set_cons_zero, List.set_cons_succ])) | ((with_reducible apply wpQ_loadAt); (· first | exact cell_party | exact cell_i64); (· rfl); (· rfl); (· first | exact fun w' h => (HC.out w' h).1 | exact fun w' h => (HC.out w' h).2.1); (simp only [Act.put, List.setIfInBounds_toArray, List.set_cons_zero, List.set_cons_succ])) | go_big_quiet_step (fail))
                refine wpQuiet_nil ?_
                clear H
                intro _ H
                go_wp2_with (go_skip)
                refine ⟨?_, ?_⟩
                · exact ⟨⟨j + 1, by go_num, by omega, HS.out, H⟩⟩
                · simp [intOf]; omega
          · obtain rfl : k = j := by omega
            have HTF := Lib.hid (show t a b = false by rw [HT.out]; exact hno)
            clear hno
            go_wp2_with (first | go_skip | ((with_reducible show wpList _ _ _ (_ :: _) _ _); (with_reducible apply wpl_loadCH); (· first | exact cell_party | exact cell_i64); (· rfl); (· rfl); (· exact H); (· (repeat (first | (with_reducible exact List.mem_cons_self) | with_reducible apply List.mem_cons_of_mem))); (· (with_reducible first | exact flow_g0 .. | exact flow_g1 .. | exact flow_g2 ..)); (simp only [Act.put, List.setIfInBounds_toArray, List.set_cons_zero, List.set_cons_succ])))
            refine (rset_H (l := Cel px (flow a b n) 35 :: l) c a b n HM.out.1 HM.out.2 n0 n1 HGB.out.1 HGB.out.2 ⟨ra, rcc, by rw [HNE.out]; exact (H.perm (.swap _ _ _)).perm (.cons _ (.swap _ _ _))⟩).mono ?_
            clear H
            rintro e w1 ⟨rfl, ra2, rcc2, H⟩
            go_wp2_with (go_skip)
            refine ⟨?_, ?_⟩
            · refine ⟨⟨k + 1, upd2 t a b true, upd2 c a b n, by go_num, by omega, ?_, fun x y => ?_, HGB.out.1.upd HM.out.1 HM.out.2 n0, HGB.out.2.upd n1, ra2, rcc2, H.drop (.there (.there .here))⟩⟩
              · rw [HG.out, newS_yes (by rw [HB.out, HTF.out]; rfl)]
              · rw [HTK.out, List.any_append, ← HT.out]
                unfold upd2 endsB
                by_cases e : x = a ∧ y = b
                · obtain ⟨rfl, rfl⟩ := e; simp
                · rw [if_neg e]
                  have : ¬ (a = x ∧ b = y) := fun ⟨e1, e2⟩ => e ⟨e1.symm, e2.symm⟩
                  simp [this]
            · simp [intOf]; omega
      · rw [newS_no (by simp only [Bool.not_eq_true] at hb; rw [hb]; rfl)] at hG
        have HG := Lib.hid hG
        have hcase : (decide ((a : Int) < 1) = true) ∨ (decide ((a : Int) < 1) = false ∧ decide ((a : Int) > 16) = true) ∨ (decide ((a : Int) < 1) = false ∧ decide ((a : Int) > 16) = false ∧ decide ((b : Int) < 1) = true) ∨ (decide ((a : Int) < 1) = false ∧ decide ((a : Int) > 16) = false ∧ decide ((b : Int) < 1) = false ∧ decide ((b : Int) > 16) = true) ∨ (decide ((a : Int) < 1) = false ∧ decide ((a : Int) > 16) = false ∧ decide ((b : Int) < 1) = false ∧ decide ((b : Int) > 16) = false ∧ ((a : Int) == (b : Int)) = true) ∨ (decide ((a : Int) < 1) = false ∧ decide ((a : Int) > 16) = false ∧ decide ((b : Int) < 1) = false ∧ decide ((b : Int) > 16) = false ∧ ((a : Int) == (b : Int)) = false ∧ decide (n < 0) = true) ∨ (decide ((a : Int) < 1) = false ∧ decide ((a : Int) > 16) = false ∧ decide ((b : Int) < 1) = false ∧ decide ((b : Int) > 16) = false ∧ ((a : Int) == (b : Int)) = false ∧ decide (n < 0) = false ∧ decide (n > 2199023255552) = true) := by
          simp only [decide_eq_true_eq, decide_eq_false_iff_not, beq_iff_eq, beq_eq_false_iff_ne, ne_eq]
          unfold edgeB mayP at hb
          simp at hb
          omega
        clear hb hG
        rcases hcase with g1 | ⟨g1, g2⟩ | ⟨g1, g2, g3⟩ | ⟨g1, g2, g3, g4⟩ | ⟨g1, g2, g3, g4, g5⟩ | ⟨g1, g2, g3, g4, g5, g6⟩ | ⟨g1, g2, g3, g4, g5, g6, g7⟩
        all_goals
          go_wp2_with (first
            | go_skip
            | ((with_reducible show wpList _ _ _ (_ :: _) _ _); (with_reducible apply wpl_loadRdR row_flow); (· rfl); (· rfl); (· exact HR.out _ _ (fun x hx => by (repeat (first | (with_reducible exact hx) | with_reducible apply List.mem_cons_of_mem))) H); (· rfl); (· exact hlen); (· decide); (· exact hrow); (simp only [Act.put, List.setIfInBounds_toArray, List.set_cons_zero, List.set_cons_succ]))
            | ((with_reducible show wpList _ _ _ (_ :: _) _ _); (with_reducible apply wpl_allocRH row_flow); (· rfl); (· exact H); (clear H; intro px _ H); (simp only [Act.put, List.setIfInBounds_toArray, List.set_cons_zero, List.set_cons_succ]))
            | ((with_reducible show wpList _ _ _ (_ :: _) _ _); (with_reducible apply wpl_storeRH row_flow); (· rfl); (· rfl); (· rfl); (· with_reducible exact flow_cells ..); (· exact H); (· (repeat (first | (with_reducible exact List.mem_cons_self) | with_reducible apply List.mem_cons_of_mem))); (· (simp only [flow_sz, Nat.reduceAdd, Nat.reduceLeDiff, Nat.le_refl]; done)); (· with_reducible exact flow_splice ..); (· (repeat (first | (with_reducible exact Repl.here) | with_reducible apply Repl.there))); (clear H; intro _ H); (simp only [Act.put, List.setIfInBounds_toArray, List.set_cons_zero, List.set_cons_succ]))
            | ((with_reducible show wpList _ _ _ (_ :: _) _ _); (with_reducible apply wpl_loadCH); (· first | exact cell_party | exact cell_i64); (· rfl); (· rfl); (· exact H); (· (repeat (first | (with_reducible exact List.mem_cons_self) | with_reducible apply List.mem_cons_of_mem))); (· (with_reducible first | exact flow_g0 .. | exact flow_g1 .. | exact flow_g2 ..)); (simp only [Act.put, List.setIfInBounds_toArray, List.set_cons_zero, List.set_cons_succ])))
          go_ret2
          exact .inl ⟨HG.out, rfl, H.tail.tail.tail⟩
    · obtain rfl : en = k := by omega
      rw [List.drop_of_length_le (by rw [HL.out]; exact Nat.le_refl _)] at hG
      have HG := Lib.hid (show newG F = some c from hG)
      have HGB := Lib.hid (And.intro hgc hbc)
      clear hG ht hgc hbc
      obtain ⟨ra, rcc, H⟩ := H'
      go_wp2_with (go_skip)
      go_ret2
      exact .inr ⟨c, p, HG.out, rfl, HGB.out.1, HGB.out.2, ra, rcc, H⟩
end
end Go.Proofs.Ytglehneaphigdaa

/- countinghouseref05: Push, Copy; capacities as a play of pushes keeps them. -/
namespace Go.Proofs.Ytglehneaphigdaa
open Go.RowKit
set_option linter.unusedSimpArgs false
set_option linter.unusedVariables false
theorem flwL_one (F : List Flw) : OneCells (flwL F) := fun u hu => by
  unfold flwL at hu
  rw [List.mem_flatMap] at hu
  obtain ⟨x, _, hx⟩ := hu
  simp only [flwV, List.mem_cons, List.not_mem_nil, or_false] at hx
  rcases hx with rfl | rfl | rfl <;> rfl
structure PlayC (c : Caps) : Prop where
  good : GoodC c
  diag : ∀ a, c a a = 0
  sum : ∀ a b, c a b + c b a ≤ 4398046511104
theorem PlayC.bnd {c : Caps} (h : PlayC c) : BndC c := fun a b => by
  have h1 := h.sum a b
  have h2 := h.good.ge b a
  omega
theorem newS_play : ∀ (F : List Flw) (t : Nat → Nat → Bool) (c c' : Caps), newS F t c = some c' → GoodC c → (∀ a, c a a = 0) → (∀ a b, c a b ≤ 2199023255552) → PlayC c'
  | [], t, c, c', h, hg, hd, hs => by
    simp only [newS, Option.some.injEq] at h
    subst h
    exact ⟨hg, hd, fun a b => by have := hs a b; have := hs b a; omega⟩
  | x :: F, t, c, c', h, hg, hd, hs => by
    by_cases hx : (edgeB x && !t x.f x.t) = true
    · rw [newS_yes hx] at h
      simp only [Bool.and_eq_true, edgeB, decide_eq_true_eq, bne_iff_ne] at hx
      obtain ⟨⟨⟨⟨⟨h1, h2⟩, h3⟩, h4⟩, h5⟩, _⟩ := hx
      refine newS_play F _ _ c' h (hg.upd h1 h2 h4) (fun a => ?_) (fun a b => ?_)
      · unfold upd2
        split
        · rename_i e; exact absurd (e.1.symm.trans e.2) h3
        · exact hd a
      · unfold upd2
        split
        · exact h5
        · exact hs a b
    · rw [newS_no (by simpa using hx)] at h
      cases h
theorem newG_play {F : List Flw} {c : Caps} (h : newG F = some c) : PlayC c :=
  newS_play F _ _ c h GoodC.zero (fun _ => rfl) (fun _ _ => by show (0 : Int) ≤ _; omega)
def pushR (c : Caps) (a b : Nat) (n : Int) : Int := if n < 1 then 1 else if c a b < n then 11 else 0
def pushT (c : Caps) (a b : Nat) (n : Int) : Caps := if n < 1 ∨ c a b < n then c else pushC c a b n
theorem PlayC.ne {c : Caps} (h : PlayC c) {a b : Nat} {n : Int} (h1 : 1 ≤ n) (h2 : n ≤ c a b) : a ≠ b := fun e => by
  subst e
  have := h.diag a
  omega
theorem pushC_eq {c : Caps} {a b : Nat} {n : Int} (h : a ≠ b) : pushC c a b n = upd2 (upd2 c a b (c a b - n)) b a (c b a + n) := by
  unfold pushC
  rw [show upd2 c a b (c a b - n) b a = c b a by unfold upd2; rw [if_neg (fun e => h e.1.symm)]]
theorem PlayC.push {c : Caps} (h : PlayC c) (a b : Nat) (n : Int) : PlayC (pushT c a b n) := by
  unfold pushT
  split
  · exact h
  · rename_i hn
    have hn1 : 1 ≤ n := by omega
    have hn2 : n ≤ c a b := by omega
    have hm := h.good.may a b (by omega)
    have hne := h.ne hn1 hn2
    have hb := h.good.ge b a
    rw [pushC_eq hne]
    refine ⟨(h.good.upd hm.1 hm.2 (by omega)).upd hm.2 hm.1 (by omega), fun x => ?_, fun x y => ?_⟩
    · unfold upd2
      rw [if_neg (fun e => hne (e.2.symm.trans e.1)), if_neg (fun e => hne (e.1.symm.trans e.2))]
      exact h.diag x
    · have h1 := h.sum x y
      have h2 := h.sum a b
      unfold upd2
      by_cases e1 : x = b ∧ y = a
      · obtain ⟨rfl, rfl⟩ := e1
        rw [if_pos ⟨rfl, rfl⟩, if_neg (fun e => hne e.1), if_pos ⟨rfl, rfl⟩]
        omega
      · rw [if_neg e1]
        by_cases e2 : x = a ∧ y = b
        · obtain ⟨rfl, rfl⟩ := e2
          rw [if_pos ⟨rfl, rfl⟩, if_pos ⟨rfl, rfl⟩]
          omega
        · rw [if_neg e2, if_neg (fun e => e2 ⟨e.2, e.1⟩), if_neg (fun e => e1 ⟨e.2, e.1⟩)]
          exact h1
section
variable {W w : World} {l : List Thing} {p : Nat}
set_option maxRecDepth 100000
set_option maxHeartbeats 4000000
theorem rpush_H (c : Caps) (a b : Nat) (n : Int) (ha : a ≤ 255) (hb : b ≤ 255) (h0 : -9223372036854775808 ≤ n) (h1 : n ≤ 9223372036854775807) (hc : PlayC c) (H : RgH W l p c w) :
    Calls Try.prog 20 #[.pointer (some ⟨p, 0, none⟩), .int .u8 (a : Int), .int .u8 (b : Int), .int .i64 n] w fun e w' => e = .returned (.int .i64 (pushR c a b n)) ∧ RgH W l p (pushT c a b n) w' := by
  by_cases hn : n < 1
  · have hd : decide (n < 1) = true := by simp; omega
    have HP := Lib.hid (And.intro (show pushR c a b n = 1 by simp [pushR, hn]) (show pushT c a b n = c by simp [pushT, hn]))
    have HR := Lib.hid H
    clear hc H
    go_enter Try.func20, Try.ntmps20
    go_wp2_with (go_skip)
    go_ret
    rw [HP.out.1, HP.out.2]
    exact ⟨rfl, HR.out⟩
  · obtain ⟨ga, gc, H'⟩ := H
    have hd : decide (n < 1) = false := by simp; omega
    have hle := edges_len c
    have HB := Lib.hid hc.bnd
    have HC := Lib.hid hc
    have hcap := fun (x y : Nat) (hx : x ≤ 255) (hy : y ≤ 255) => rcap_H (W := W) (l := RgT p (.slice ga (edgesOf c).length gc) :: FlT (.slice ga (edgesOf c).length gc) (edgesOf c).length (edgesOf c) :: l) (p := p) (a := ga) (cc := gc) x y hx hy List.mem_cons_self (List.mem_cons_of_mem _ List.mem_cons_self) rfl (by omega) (edges_ok hc.bnd)
    simp only [hc.good.cap] at hcap
    have C1 := hcap a b ha hb
    have C2 := hcap b a hb ha
    have HH := H'
    clear hcap hle H'
    by_cases hn2 : c a b < n
    · have hd2 : decide (n > c a b) = true := by simp; omega
      have hd3 : decide (c a b < n) = true := by simp; omega
      have HP := Lib.hid (And.intro (show pushR c a b n = 11 by simp [pushR, hn, hn2]) (show pushT c a b n = c by simp [pushT, hn2]))
      have H := HH
      clear HH hc
      go_enter Try.func20, Try.ntmps20
      go_wp2_with (first | go_skip | ((with_reducible refine AnsH.call (by assumption) H ?_); clear H; intro _ H))
      go_ret
      rw [HP.out.1, HP.out.2]
      exact ⟨rfl, ga, gc, H⟩
    · have hd2 : decide (n > c a b) = false := by simp; omega
      have hd3 : decide (c a b < n) = false := by simp; omega
      have hne := hc.ne (show 1 ≤ n by omega) (show n ≤ c a b by omega)
      have hm := hc.good.may a b (by omega)
      have hge := hc.good.ge b a
      have hsum := hc.sum a b
      have hs1 : wrap64 (c a b - n) = c a b - n := IntWalk.wrap64_in _ ⟨by omega, by omega⟩
      have hs2 : wrap64 (c b a + n) = c b a + n := IntWalk.wrap64_in _ ⟨by omega, by omega⟩
      have HP := Lib.hid (And.intro (show pushR c a b n = 0 by simp [pushR, hn, hn2]) (show pushT c a b n = upd2 (upd2 c a b (c a b - n)) b a (c b a + n) by rw [← pushC_eq hne]; simp [pushT, hn, hn2]))
      have S1 := Lib.hid (show ∀ w', RgH W l p c w' → _ from fun w' h => rset_H (W := W) (l := l) (p := p) (w := w') c a b (c a b - n) hm.1 hm.2 (by omega) (by omega) hc.good hc.bnd h)
      have S2 := Lib.hid (show ∀ w', RgH W l p (upd2 c a b (c a b - n)) w' → _ from fun w' h => rset_H (W := W) (l := l) (p := p) (w := w') (upd2 c a b (c a b - n)) b a (c b a + n) hm.2 hm.1 (by omega) (by omega) (hc.good.upd hm.1 hm.2 (by omega)) (hc.bnd.upd (by omega)) h)
      have H := HH
      clear HH hc hm hne
      go_enter Try.func20, Try.ntmps20
      go_wp2_with (first | go_skip | ((with_reducible refine AnsH.call (by assumption) H ?_); clear H; intro _ H))
      try rw [hs1]
      refine (S1.out _ ⟨ga, gc, H⟩).mono ?_
      clear H C1 C2
      rintro e w2 ⟨rfl, H⟩
      go_wp2_with (go_skip)
      try rw [hs2]
      refine (S2.out _ H).mono ?_
      clear H
      rintro e w3 ⟨rfl, H⟩
      have HR := Lib.hid H
      clear H
      go_wp2_with (go_skip)
      go_ret
      rw [HP.out.1, HP.out.2]
      exact ⟨rfl, HR.out⟩
theorem rcopy_H (F : List Flw) (n : Nat) (a : Option Addr) (cc : Nat) (hl : F.length = n) (hn : n ≤ 1000000) (m1 : RgT p (.slice a n cc) ∈ l) (m2 : FlT (.slice a n cc) n F ∈ l) (H : Heap W l w) :
    Calls Try.prog 18 #[.pointer (some ⟨p, 0, none⟩)] w fun e w' => ∃ q a' c', e = .returned (.pointer (some ⟨q, 0, none⟩)) ∧ Heap W (RgT q (.slice a' n c') :: FlT (.slice a' n c') n F :: l) w' := by
  have hn1 : 0 + n ≤ maxLen := by unfold maxLen; omega
  have hn2 : (0 + n) * 16 ≤ 140737488355328 := by omega
  have hlen : (flwL F).length = n * 3 := by rw [flwL_len, hl]
  go_enter Try.func18, Try.ntmps18
  go_wp2_with (first
    | go_skip
    | ((with_reducible show wpList _ _ _ (_ :: _) _ _); (with_reducible apply wpl_loadCH); (· exact cell_flows); (· rfl); (· rfl); (· exact H); (· exact m1); (· exact rgC_g _); (simp only [Act.put, List.setIfInBounds_toArray, List.set_cons_zero, List.set_cons_succ]))
    | ((with_reducible show wpList _ _ _ (_ :: _) _ _); (with_reducible apply wpl_appendA slF); (· rfl); (· rfl); (· rfl); (· rfl); (· exact H.nilRow 35 3); (· exact rowT_rd H m2); (· exact hlen); (· exact flwL_one F); (· exact hn1); (· exact hn2); (clear H; intro v2 w2 _ H; rw [Nat.zero_add, List.nil_append] at H; obtain ⟨a2, c2, rfl, _, _⟩ := rowT_form (H.ok _ List.mem_cons_self)); (simp only [Act.put, List.setIfInBounds_toArray, List.set_cons_zero, List.set_cons_succ]))
    | ((with_reducible show wpList _ _ _ (_ :: _) _ _); (with_reducible apply wpl_boxRH); (· rfl); (· rfl); (· exact H); (clear H; intro q _ H); (simp only [Act.put, List.setIfInBounds_toArray, List.set_cons_zero, List.set_cons_succ])))
  go_ret
  exact ⟨q, a2, c2, rfl, H⟩
end
end Go.Proofs.Ytglehneaphigdaa
