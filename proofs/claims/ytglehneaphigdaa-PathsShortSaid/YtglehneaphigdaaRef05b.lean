/- countinghouseref05: set, New, Push, Copy. -/
import Derived.Test.YtglehneaphigdaaRef05
import Derived.Test.YtglehneaphigdaaAppend
namespace Go.Proofs.Ytglehneaphigdaa
open Go.RowKit
set_option linter.unusedSimpArgs false
set_option linter.unusedVariables false
def BndC (c : Caps) : Prop := ∀ a b, c a b ≤ 4611686018427387904
theorem rowE_mem {c : Caps} {r : Nat} {x : Flw} : ∀ k, x ∈ rowE c r k → x.f = r ∧ x.t < k ∧ x.n = c x.f x.t ∧ 0 < x.n
  | 0, h => by cases h
  | k + 1, h => by
    rw [rowE] at h
    rcases List.mem_append.1 h with h | h
    · have := rowE_mem k h
      exact ⟨this.1, by omega, this.2.2⟩
    · split at h
      · rename_i hp
        rw [List.mem_singleton.1 h]
        exact ⟨rfl, by show k < k + 1; omega, rfl, hp⟩
      · cases h
theorem matE_mem {c : Caps} {x : Flw} : ∀ k, x ∈ matE c k → x.f < k ∧ x.t < 17 ∧ x.n = c x.f x.t ∧ 0 < x.n
  | 0, h => by cases h
  | k + 1, h => by
    rw [matE] at h
    rcases List.mem_append.1 h with h | h
    · have := matE_mem k h
      exact ⟨by omega, this.2⟩
    · have := rowE_mem 17 h
      exact ⟨by omega, this.2⟩
theorem edges_ok {c : Caps} (h : BndC c) : ∀ x ∈ edgesOf c, FlwOk x := fun x hx => by
  have := matE_mem 17 hx
  have := h x.f x.t
  exact ⟨by omega, by omega, by omega, by omega⟩
theorem edges_len (c : Caps) : (edgesOf c).length ≤ 289 := matE_len c 17
theorem BndC.upd {c : Caps} (h : BndC c) {a b : Nat} {n : Int} (hn : n ≤ 4611686018427387904) : BndC (upd2 c a b n) := fun x y => by
  unfold upd2
  split
  · exact hn
  · exact h x y
theorem BndC.zero : BndC zeroC := fun _ _ => by show (0 : Int) ≤ _; omega
/-- A graph of the document's. -/
def RgH (W : World) (l : List Thing) (p : Nat) (c : Caps) (w : World) : Prop := ∃ a cc, Heap W (RgT p (.slice a (edgesOf c).length cc) :: FlT (.slice a (edgesOf c).length cc) (edgesOf c).length (edgesOf c) :: l) w
section
variable {ops : Array Oper} {rest : List Oper} {a : Act} {w W : World} {l l' : List Thing} {Q : Exit → Act → World → Prop}
/-- x = Flow{f, t, n}. -/
theorem wpl_storeFlow {dst : Option Tmp} {ty : TypeId} {pos : String} {after : Array Edge} {guard : Option (Nat × Bool)} {x y : Operand} {b : Nat} {f t n f0 t0 n0 : Int} {te : TypeId} (hw : Region.wanted ⟨dst, .store 35 x y, ty, pos, after, guard⟩ (yielded ops a.tmps) = true) (hx : a.eval x = .pointer (some ⟨b, 0, none⟩)) (hy : a.eval y = .agg #[.int .u8 f, .int .u8 t, .int .i64 n])
    (H : Heap W l w) (m : Cel b (flow f0 t0 n0) te ∈ l) (r : Repl l (Cel b (flow f0 t0 n0) te) (Cel b (flow f t n) te) l')
    (h : ∀ w', Heap W l' w' → wpList Try.prog ops Q rest (a.put dst undef) w') : wpList Try.prog ops Q (⟨dst, .store 35 x y, ty, pos, after, guard⟩ :: rest) a w :=
  wpl_storeRH row_flow hw hx hy (flow_cells f t n) H m (by simp [flow_sz]) (flow_splice ..) r h
end
theorem flT_snoc (v : Value) (L : List Flw) (f t : Nat) (n : Int) : FlT v (L ++ [(⟨f, t, n⟩ : Flw)]).length (L ++ [(⟨f, t, n⟩ : Flw)]) = RowT 35 3 v (L.length + 1) (flwL L ++ (flow (f : Int) (t : Int) n).toList) := by
  unfold FlT
  rw [flwL_app, List.length_append]
  rfl
structure SetA (W : World) (l : List Thing) (c : Caps) (v i : Value) (wr : World) : Prop where
  out : ∃ a : Nat, i = .int .u8 (a : Int) ∧ 1 ≤ a ∧ a ≤ 17 ∧ Heap W (FlT v (matE c a).length (matE c a) :: l) wr
structure SetB (W : World) (l : List Thing) (c : Caps) (a : Nat) (v i : Value) (wr : World) : Prop where
  out : ∃ b : Nat, i = .int .u8 (b : Int) ∧ 1 ≤ b ∧ b ≤ 17 ∧ Heap W (FlT v (matE c a ++ rowE c a b).length (matE c a ++ rowE c a b) :: l) wr
section
variable {W w : World} {l : List Thing} {p : Nat}
set_option maxRecDepth 100000
set_option maxHeartbeats 4000000
theorem rset_H (c : Caps) (f t : Nat) (n0 : Int) (hf : mayP f = true) (ht : mayP t = true) (h0 : 0 ≤ n0) (hn0 : n0 ≤ 4611686018427387904) (hc : GoodC c) (hb : BndC c) (H : RgH W l p c w) :
    Calls Try.prog 45 #[.pointer (some ⟨p, 0, none⟩), .int .u8 (f : Int), .int .u8 (t : Int), .int .i64 n0] w fun e w' => e = .returned (.tuple #[]) ∧ RgH W l p (upd2 c f t n0) w' := by
  obtain ⟨a, cc, H⟩ := H
  have hc2 := hc.upd hf ht h0
  have hb2 : BndC (upd2 c f t n0) := hb.upd hn0
  have hf2 := mayP_true hf
  have ht2 := mayP_true ht
  have hle := edges_len c
  have hcap := fun (l' : List Thing) (x y : Nat) (hx : x ≤ 255) (hy : y ≤ 255) (m1 : RgT p (.slice a (edgesOf c).length cc) ∈ l') (m2 : FlT (.slice a (edgesOf c).length cc) (edgesOf c).length (edgesOf c) ∈ l') => rcap_H (W := W) (l := l') x y hx hy m1 m2 rfl (by omega) (edges_ok hb)
  simp only [hc.cap] at hcap
  have hnew : ∀ x y, upd2 c f t n0 x y = if x = f ∧ y = t then n0 else c x y := fun x y => rfl
  generalize upd2 c f t n0 = c' at *
  generalize hE : (edgesOf c).length = N at *
  have HX := Lib.hid (And.intro hc2 (And.intro hb2 hnew))
  have HCAP := Lib.hid hcap
  have HB := Lib.hid hb
  clear hc hb hc2 hb2 hnew hcap hf ht hE
  go_enter Try.func45, Try.ntmps45
  go_wp2_with (go_skip)
  have H0 := H.nilRow 35 3
  clear H
  rw [show (0 : Nat) = (matE c' 1).length by rw [HX.out.1.mat1]; rfl, show ([] : List Value) = flwL (matE c' 1) by rw [HX.out.1.mat1]; rfl] at H0
  go_loopw [8, 9] (fun v i wr => SetA W (RgT p (.slice a N cc) :: FlT (.slice a N cc) N (edgesOf c) :: l) c' v i wr) (fun _ i _ => 17 - (intOf i).toNat)
  case atStart => exact ⟨1, rfl, by omega, by omega, by simpa [HX.out.1.mat1] using H0⟩
  case round =>
    obtain ⟨x, rfl, hx1, hx, H'⟩ := hrel.out
    clear H0 hrel
    have H := H'
    clear H'
    by_cases hlt : x < 17
    · have g1 : decide ((x : Int) ≤ 16) = true := by simp; omega
      go_wp2_with (go_skip)
      have H0 := H
      clear H
      go_loopw [8, 10] (fun v i wr => SetB W (RgT p (.slice a N cc) :: FlT (.slice a N cc) N (edgesOf c) :: l) c' x v i wr) (fun _ i _ => 17 - (intOf i).toNat)
      case atStart => exact ⟨1, rfl, by omega, by omega, by rw [HX.out.1.col0, List.append_nil]; exact H0⟩
      case round =>
        obtain ⟨y, rfl, hy1, hy, H'⟩ := hrel.out
        clear H0 hrel
        have H := H'
        clear H'
        by_cases hlt2 : y < 17
        · have g2 : decide ((y : Int) ≤ 16) = true := by simp; omega
          have hA := HCAP.out (FlT u8 (matE c' x ++ rowE c' x y).length (matE c' x ++ rowE c' x y) :: RgT p (.slice a N cc) :: FlT (.slice a N cc) N (edgesOf c) :: l) x y (by omega) (by omega) (by (repeat (first | (with_reducible exact List.mem_cons_self) | with_reducible apply List.mem_cons_of_mem))) (by (repeat (first | (with_reducible exact List.mem_cons_self) | with_reducible apply List.mem_cons_of_mem)))
          have hlen : (matE c' x ++ rowE c' x y).length ≤ 289 := by have := matE_len c' x; have := rowE_len c' x y; simp only [List.length_append]; omega
          have hb1 := HB.out x y
          have hv := HX.out.2.2 x y
          have HV := Lib.hid hv
          have HR := Lib.hid (show rowE c' x (y + 1) = rowE c' x y ++ if 0 < c' x y then [⟨x, y, c' x y⟩] else [] from rfl)
          generalize c x y = cv at *
          have hn1 : (matE c' x ++ rowE c' x y).length + 1 ≤ maxLen := by unfold maxLen; omega
          have hn2 : ((matE c' x ++ rowE c' x y).length + 1) * 16 ≤ 140737488355328 := by omega
          by_cases hft : x = f ∧ y = t
          · rw [if_pos hft] at hv
            obtain ⟨rfl, rfl⟩ := hft
            have HV2 := Lib.hid hv
            have e1 : ((x : Int) == (x : Int)) = true := by simp
            have e2 : ((y : Int) == (y : Int)) = true := by simp
            clear hv HV
            by_cases hp : 0 < n0
            · skip
              go_wp2_with (first
                | go_skip
                | ((with_reducible refine AnsH.call (by assumption) H ?_); clear H; intro _ H)
                | ((with_reducible show wpList _ _ _ (_ :: _) _ _); (with_reducible apply wpl_allocRH row_flow); (· rfl); (· exact H); (clear H; intro px _ H); (simp only [Act.put, List.setIfInBounds_toArray, List.set_cons_zero, List.set_cons_succ]))
                | ((with_reducible show wpList _ _ _ (_ :: _) _ _); (with_reducible apply wpl_storeFlow); (· rfl); (· rfl); (· rfl); (· exact H); (· (repeat (first | (with_reducible exact List.mem_cons_self) | with_reducible apply List.mem_cons_of_mem))); (· (repeat (first | (with_reducible exact Repl.here) | with_reducible apply Repl.there))); (clear H; intro _ H); (simp only [Act.put, List.setIfInBounds_toArray, List.set_cons_zero, List.set_cons_succ]))
                | ((with_reducible show wpList _ _ _ (_ :: _) _ _); (with_reducible apply wpl_loadCH); (· first | exact cell_party | exact cell_i64); (· rfl); (· rfl); (· exact H); (· (repeat (first | (with_reducible exact List.mem_cons_self) | with_reducible apply List.mem_cons_of_mem))); (· (with_reducible first | exact flow_g0 .. | exact flow_g1 .. | exact flow_g2 ..)); (simp only [Act.put, List.setIfInBounds_toArray, List.set_cons_zero, List.set_cons_succ]))
                | (first | ((with_reducible show wpList _ _ _ (_ :: _) _ _); (with_reducible apply wpl_storeIH); (· first | exact cell_party | exact cell_i64); (· rfl); (· rfl); (· rfl); (· exact H); (· (repeat (first | (with_reducible exact List.mem_cons_self) | with_reducible apply List.mem_cons_of_mem))); (· (simp only [flow_sz, Nat.reduceLT]; done)); (· (with_reducible first | exact flow_s0 .. | exact flow_s1 .. | exact flow_s2 ..)); (· (repeat (first | (with_reducible exact Repl.here) | with_reducible apply Repl.there))); (clear H; intro _ H); (simp only [Act.put, List.setIfInBounds_toArray, List.set_cons_zero, List.set_cons_succ])) | ((with_reducible show wpList _ _ _ (_ :: _) _ _); (with_reducible apply wpl_storeBH); (· first | exact cell_party | exact cell_i64); (· rfl); (· rfl); (· rfl); (· exact H); (· (repeat (first | (with_reducible exact List.mem_cons_self) | with_reducible apply List.mem_cons_of_mem))); (· (simp only [flow_sz, Nat.reduceLT]; done)); (· (with_reducible first | exact flow_s0 .. | exact flow_s1 .. | exact flow_s2 ..)); (· (repeat (first | (with_reducible exact Repl.here) | with_reducible apply Repl.there))); (clear H; intro _ H); (simp only [Act.put, List.setIfInBounds_toArray, List.set_cons_zero, List.set_cons_succ])) | ((with_reducible show wpList _ _ _ (_ :: _) _ _); (with_reducible apply wpl_storeSH); (· first | exact cell_party | exact cell_i64); (· rfl); (· rfl); (· rfl); (· exact H); (· (repeat (first | (with_reducible exact List.mem_cons_self) | with_reducible apply List.mem_cons_of_mem))); (· (simp only [flow_sz, Nat.reduceLT]; done)); (· (with_reducible first | exact flow_s0 .. | exact flow_s1 .. | exact flow_s2 ..)); (· (repeat (first | (with_reducible exact Repl.here) | with_reducible apply Repl.there))); (clear H; intro _ H); (simp only [Act.put, List.setIfInBounds_toArray, List.set_cons_zero, List.set_cons_succ])) | ((with_reducible show wpList _ _ _ (_ :: _) _ _); (with_reducible apply wpl_storePH); (· first | exact cell_party | exact cell_i64); (· rfl); (· rfl); (· rfl); (· exact H); (· (repeat (first | (with_reducible exact List.mem_cons_self) | with_reducible apply List.mem_cons_of_mem))); (· (simp only [flow_sz, Nat.reduceLT]; done)); (· (with_reducible first | exact flow_s0 .. | exact flow_s1 .. | exact flow_s2 ..)); (· (repeat (first | (with_reducible exact Repl.here) | with_reducible apply Repl.there))); (clear H; intro _ H); (simp only [Act.put, List.setIfInBounds_toArray, List.set_cons_zero, List.set_cons_succ])))
                | ((with_reducible show wpList _ _ _ (_ :: _) _ _); (with_reducible apply wpl_loadRH row_flow); (· rfl); (· rfl); (· exact H); (· (repeat (first | (with_reducible exact List.mem_cons_self) | with_reducible apply List.mem_cons_of_mem))); (· (simp only [flow_sz, Nat.reduceAdd, Nat.reduceLeDiff, Nat.le_refl]; done)); (· with_reducible exact flow_all ..); (simp only [Act.put, List.setIfInBounds_toArray, List.set_cons_zero, List.set_cons_succ]))
                | ((with_reducible show wpList _ _ _ (_ :: _) _ _); (with_reducible apply wpl_bsRH); (· rfl); (· rfl); (· exact bs_flow); (· exact rfl); (· exact H); (clear H; intro pf _ H); (simp only [Act.put, List.setIfInBounds_toArray, List.set_cons_zero, List.set_cons_succ]))
                | ((with_reducible show wpList _ _ _ (_ :: _) _ _); (with_reducible apply wpl_appendH slF); (· rfl); (· rfl); (· rfl); (· rfl); (· exact H.pull (.there (.there .here))); (· exact H.celRd List.mem_cons_self); (· rfl); (· exact flowC_one _ _ _); (· exact hn1); (· exact hn2); (clear H; intro v2 _ H); (simp only [Act.put, List.setIfInBounds_toArray, List.set_cons_zero, List.set_cons_succ])))
              go_roundw
              case rel =>
                refine ⟨⟨y + 1, by go_num, by omega, by omega, ?_⟩⟩
                have e : matE c' x ++ rowE c' x (y + 1) = (matE c' x ++ rowE c' x y) ++ [⟨x, y, n0⟩] := by rw [HR.out, HV2.out, if_pos hp, List.append_assoc]
                rw [e, flT_snoc]
                exact (H.drop (.there .here)).drop (.there .here)
              case measure => simp [intOf]; omega
            · skip
              go_wp2_with (first
                | go_skip
                | ((with_reducible refine AnsH.call (by assumption) H ?_); clear H; intro _ H)
                | ((with_reducible show wpList _ _ _ (_ :: _) _ _); (with_reducible apply wpl_allocRH row_flow); (· rfl); (· exact H); (clear H; intro px _ H); (simp only [Act.put, List.setIfInBounds_toArray, List.set_cons_zero, List.set_cons_succ]))
                | ((with_reducible show wpList _ _ _ (_ :: _) _ _); (with_reducible apply wpl_storeFlow); (· rfl); (· rfl); (· rfl); (· exact H); (· (repeat (first | (with_reducible exact List.mem_cons_self) | with_reducible apply List.mem_cons_of_mem))); (· (repeat (first | (with_reducible exact Repl.here) | with_reducible apply Repl.there))); (clear H; intro _ H); (simp only [Act.put, List.setIfInBounds_toArray, List.set_cons_zero, List.set_cons_succ]))
                | ((with_reducible show wpList _ _ _ (_ :: _) _ _); (with_reducible apply wpl_loadCH); (· first | exact cell_party | exact cell_i64); (· rfl); (· rfl); (· exact H); (· (repeat (first | (with_reducible exact List.mem_cons_self) | with_reducible apply List.mem_cons_of_mem))); (· (with_reducible first | exact flow_g0 .. | exact flow_g1 .. | exact flow_g2 ..)); (simp only [Act.put, List.setIfInBounds_toArray, List.set_cons_zero, List.set_cons_succ]))
                | (first | ((with_reducible show wpList _ _ _ (_ :: _) _ _); (with_reducible apply wpl_storeIH); (· first | exact cell_party | exact cell_i64); (· rfl); (· rfl); (· rfl); (· exact H); (· (repeat (first | (with_reducible exact List.mem_cons_self) | with_reducible apply List.mem_cons_of_mem))); (· (simp only [flow_sz, Nat.reduceLT]; done)); (· (with_reducible first | exact flow_s0 .. | exact flow_s1 .. | exact flow_s2 ..)); (· (repeat (first | (with_reducible exact Repl.here) | with_reducible apply Repl.there))); (clear H; intro _ H); (simp only [Act.put, List.setIfInBounds_toArray, List.set_cons_zero, List.set_cons_succ])) | ((with_reducible show wpList _ _ _ (_ :: _) _ _); (with_reducible apply wpl_storeBH); (· first | exact cell_party | exact cell_i64); (· rfl); (· rfl); (· rfl); (· exact H); (· (repeat (first | (with_reducible exact List.mem_cons_self) | with_reducible apply List.mem_cons_of_mem))); (· (simp only [flow_sz, Nat.reduceLT]; done)); (· (with_reducible first | exact flow_s0 .. | exact flow_s1 .. | exact flow_s2 ..)); (· (repeat (first | (with_reducible exact Repl.here) | with_reducible apply Repl.there))); (clear H; intro _ H); (simp only [Act.put, List.setIfInBounds_toArray, List.set_cons_zero, List.set_cons_succ])) | ((with_reducible show wpList _ _ _ (_ :: _) _ _); (with_reducible apply wpl_storeSH); (· first | exact cell_party | exact cell_i64); (· rfl); (· rfl); (· rfl); (· exact H); (· (repeat (first | (with_reducible exact List.mem_cons_self) | with_reducible apply List.mem_cons_of_mem))); (· (simp only [flow_sz, Nat.reduceLT]; done)); (· (with_reducible first | exact flow_s0 .. | exact flow_s1 .. | exact flow_s2 ..)); (· (repeat (first | (with_reducible exact Repl.here) | with_reducible apply Repl.there))); (clear H; intro _ H); (simp only [Act.put, List.setIfInBounds_toArray, List.set_cons_zero, List.set_cons_succ])) | ((with_reducible show wpList _ _ _ (_ :: _) _ _); (with_reducible apply wpl_storePH); (· first | exact cell_party | exact cell_i64); (· rfl); (· rfl); (· rfl); (· exact H); (· (repeat (first | (with_reducible exact List.mem_cons_self) | with_reducible apply List.mem_cons_of_mem))); (· (simp only [flow_sz, Nat.reduceLT]; done)); (· (with_reducible first | exact flow_s0 .. | exact flow_s1 .. | exact flow_s2 ..)); (· (repeat (first | (with_reducible exact Repl.here) | with_reducible apply Repl.there))); (clear H; intro _ H); (simp only [Act.put, List.setIfInBounds_toArray, List.set_cons_zero, List.set_cons_succ])))
                | ((with_reducible show wpList _ _ _ (_ :: _) _ _); (with_reducible apply wpl_loadRH row_flow); (· rfl); (· rfl); (· exact H); (· (repeat (first | (with_reducible exact List.mem_cons_self) | with_reducible apply List.mem_cons_of_mem))); (· (simp only [flow_sz, Nat.reduceAdd, Nat.reduceLeDiff, Nat.le_refl]; done)); (· with_reducible exact flow_all ..); (simp only [Act.put, List.setIfInBounds_toArray, List.set_cons_zero, List.set_cons_succ]))
                | ((with_reducible show wpList _ _ _ (_ :: _) _ _); (with_reducible apply wpl_bsRH); (· rfl); (· rfl); (· exact bs_flow); (· exact rfl); (· exact H); (clear H; intro pf _ H); (simp only [Act.put, List.setIfInBounds_toArray, List.set_cons_zero, List.set_cons_succ]))
                | ((with_reducible show wpList _ _ _ (_ :: _) _ _); (with_reducible apply wpl_appendH slF); (· rfl); (· rfl); (· rfl); (· rfl); (· exact H.pull (.there (.there .here))); (· exact H.celRd List.mem_cons_self); (· rfl); (· exact flowC_one _ _ _); (· exact hn1); (· exact hn2); (clear H; intro v2 _ H); (simp only [Act.put, List.setIfInBounds_toArray, List.set_cons_zero, List.set_cons_succ])))
              refine ⟨?_, ?_⟩
              · refine ⟨⟨y + 1, by go_num, by omega, by omega, ?_⟩⟩
                have e : rowE c' x (y + 1) = rowE c' x y := by rw [HR.out, HV2.out, if_neg (by omega), List.append_nil]
                rw [e]
                exact H.tail
              · simp [intOf]; omega
          · rw [if_neg hft] at hv
            have HV2 := Lib.hid hv
            clear hv HV
            have hcase : ((x : Int) == (f : Int)) = false ∨ (((x : Int) == (f : Int)) = true ∧ ((y : Int) == (t : Int)) = false) := by
              by_cases e : x = f
              · subst e
                refine .inr ⟨by simp, ?_⟩
                have : y ≠ t := fun e2 => hft ⟨rfl, e2⟩
                simp; omega
              · exact .inl (by simp; omega)
            clear hft
            by_cases hp : 0 < cv
            · rcases hcase with e1 | ⟨e1, e2⟩
              all_goals
                go_wp2_with (first
                  | go_skip
                  | ((with_reducible refine AnsH.call (by assumption) H ?_); clear H; intro _ H)
                  | ((with_reducible show wpList _ _ _ (_ :: _) _ _); (with_reducible apply wpl_allocRH row_flow); (· rfl); (· exact H); (clear H; intro px _ H); (simp only [Act.put, List.setIfInBounds_toArray, List.set_cons_zero, List.set_cons_succ]))
                  | ((with_reducible show wpList _ _ _ (_ :: _) _ _); (with_reducible apply wpl_storeFlow); (· rfl); (· rfl); (· rfl); (· exact H); (· (repeat (first | (with_reducible exact List.mem_cons_self) | with_reducible apply List.mem_cons_of_mem))); (· (repeat (first | (with_reducible exact Repl.here) | with_reducible apply Repl.there))); (clear H; intro _ H); (simp only [Act.put, List.setIfInBounds_toArray, List.set_cons_zero, List.set_cons_succ]))
                  | ((with_reducible show wpList _ _ _ (_ :: _) _ _); (with_reducible apply wpl_loadCH); (· first | exact cell_party | exact cell_i64); (· rfl); (· rfl); (· exact H); (· (repeat (first | (with_reducible exact List.mem_cons_self) | with_reducible apply List.mem_cons_of_mem))); (· (with_reducible first | exact flow_g0 .. | exact flow_g1 .. | exact flow_g2 ..)); (simp only [Act.put, List.setIfInBounds_toArray, List.set_cons_zero, List.set_cons_succ]))
                  | (first | ((with_reducible show wpList _ _ _ (_ :: _) _ _); (with_reducible apply wpl_storeIH); (· first | exact cell_party | exact cell_i64); (· rfl); (· rfl); (· rfl); (· exact H); (· (repeat (first | (with_reducible exact List.mem_cons_self) | with_reducible apply List.mem_cons_of_mem))); (· (simp only [flow_sz, Nat.reduceLT]; done)); (· (with_reducible first | exact flow_s0 .. | exact flow_s1 .. | exact flow_s2 ..)); (· (repeat (first | (with_reducible exact Repl.here) | with_reducible apply Repl.there))); (clear H; intro _ H); (simp only [Act.put, List.setIfInBounds_toArray, List.set_cons_zero, List.set_cons_succ])) | ((with_reducible show wpList _ _ _ (_ :: _) _ _); (with_reducible apply wpl_storeBH); (· first | exact cell_party | exact cell_i64); (· rfl); (· rfl); (· rfl); (· exact H); (· (repeat (first | (with_reducible exact List.mem_cons_self) | with_reducible apply List.mem_cons_of_mem))); (· (simp only [flow_sz, Nat.reduceLT]; done)); (· (with_reducible first | exact flow_s0 .. | exact flow_s1 .. | exact flow_s2 ..)); (· (repeat (first | (with_reducible exact Repl.here) | with_reducible apply Repl.there))); (clear H; intro _ H); (simp only [Act.put, List.setIfInBounds_toArray, List.set_cons_zero, List.set_cons_succ])) | ((with_reducible show wpList _ _ _ (_ :: _) _ _); (with_reducible apply wpl_storeSH); (· first | exact cell_party | exact cell_i64); (· rfl); (· rfl); (· rfl); (· exact H); (· (repeat (first | (with_reducible exact List.mem_cons_self) | with_reducible apply List.mem_cons_of_mem))); (· (simp only [flow_sz, Nat.reduceLT]; done)); (· (with_reducible first | exact flow_s0 .. | exact flow_s1 .. | exact flow_s2 ..)); (· (repeat (first | (with_reducible exact Repl.here) | with_reducible apply Repl.there))); (clear H; intro _ H); (simp only [Act.put, List.setIfInBounds_toArray, List.set_cons_zero, List.set_cons_succ])) | ((with_reducible show wpList _ _ _ (_ :: _) _ _); (with_reducible apply wpl_storePH); (· first | exact cell_party | exact cell_i64); (· rfl); (· rfl); (· rfl); (· exact H); (· (repeat (first | (with_reducible exact List.mem_cons_self) | with_reducible apply List.mem_cons_of_mem))); (· (simp only [flow_sz, Nat.reduceLT]; done)); (· (with_reducible first | exact flow_s0 .. | exact flow_s1 .. | exact flow_s2 ..)); (· (repeat (first | (with_reducible exact Repl.here) | with_reducible apply Repl.there))); (clear H; intro _ H); (simp only [Act.put, List.setIfInBounds_toArray, List.set_cons_zero, List.set_cons_succ])))
                  | ((with_reducible show wpList _ _ _ (_ :: _) _ _); (with_reducible apply wpl_loadRH row_flow); (· rfl); (· rfl); (· exact H); (· (repeat (first | (with_reducible exact List.mem_cons_self) | with_reducible apply List.mem_cons_of_mem))); (· (simp only [flow_sz, Nat.reduceAdd, Nat.reduceLeDiff, Nat.le_refl]; done)); (· with_reducible exact flow_all ..); (simp only [Act.put, List.setIfInBounds_toArray, List.set_cons_zero, List.set_cons_succ]))
                  | ((with_reducible show wpList _ _ _ (_ :: _) _ _); (with_reducible apply wpl_bsRH); (· rfl); (· rfl); (· exact bs_flow); (· exact rfl); (· exact H); (clear H; intro pf _ H); (simp only [Act.put, List.setIfInBounds_toArray, List.set_cons_zero, List.set_cons_succ]))
                  | ((with_reducible show wpList _ _ _ (_ :: _) _ _); (with_reducible apply wpl_appendH slF); (· rfl); (· rfl); (· rfl); (· rfl); (· exact H.pull (.there (.there .here))); (· exact H.celRd List.mem_cons_self); (· rfl); (· exact flowC_one _ _ _); (· exact hn1); (· exact hn2); (clear H; intro v2 _ H); (simp only [Act.put, List.setIfInBounds_toArray, List.set_cons_zero, List.set_cons_succ])))
                go_roundw
                case rel =>
                  refine ⟨⟨y + 1, by go_num, by omega, by omega, ?_⟩⟩
                  have e : matE c' x ++ rowE c' x (y + 1) = (matE c' x ++ rowE c' x y) ++ [⟨x, y, cv⟩] := by rw [HR.out, HV2.out, if_pos hp, List.append_assoc]
                  rw [e, flT_snoc]
                  exact (H.drop (.there .here)).drop (.there .here)
                case measure => simp [intOf]; omega
            · rcases hcase with e1 | ⟨e1, e2⟩
              all_goals
                go_wp2_with (first
                  | go_skip
                  | ((with_reducible refine AnsH.call (by assumption) H ?_); clear H; intro _ H)
                  | ((with_reducible show wpList _ _ _ (_ :: _) _ _); (with_reducible apply wpl_allocRH row_flow); (· rfl); (· exact H); (clear H; intro px _ H); (simp only [Act.put, List.setIfInBounds_toArray, List.set_cons_zero, List.set_cons_succ]))
                  | ((with_reducible show wpList _ _ _ (_ :: _) _ _); (with_reducible apply wpl_storeFlow); (· rfl); (· rfl); (· rfl); (· exact H); (· (repeat (first | (with_reducible exact List.mem_cons_self) | with_reducible apply List.mem_cons_of_mem))); (· (repeat (first | (with_reducible exact Repl.here) | with_reducible apply Repl.there))); (clear H; intro _ H); (simp only [Act.put, List.setIfInBounds_toArray, List.set_cons_zero, List.set_cons_succ]))
                  | ((with_reducible show wpList _ _ _ (_ :: _) _ _); (with_reducible apply wpl_loadCH); (· first | exact cell_party | exact cell_i64); (· rfl); (· rfl); (· exact H); (· (repeat (first | (with_reducible exact List.mem_cons_self) | with_reducible apply List.mem_cons_of_mem))); (· (with_reducible first | exact flow_g0 .. | exact flow_g1 .. | exact flow_g2 ..)); (simp only [Act.put, List.setIfInBounds_toArray, List.set_cons_zero, List.set_cons_succ]))
                  | (first | ((with_reducible show wpList _ _ _ (_ :: _) _ _); (with_reducible apply wpl_storeIH); (· first | exact cell_party | exact cell_i64); (· rfl); (· rfl); (· rfl); (· exact H); (· (repeat (first | (with_reducible exact List.mem_cons_self) | with_reducible apply List.mem_cons_of_mem))); (· (simp only [flow_sz, Nat.reduceLT]; done)); (· (with_reducible first | exact flow_s0 .. | exact flow_s1 .. | exact flow_s2 ..)); (· (repeat (first | (with_reducible exact Repl.here) | with_reducible apply Repl.there))); (clear H; intro _ H); (simp only [Act.put, List.setIfInBounds_toArray, List.set_cons_zero, List.set_cons_succ])) | ((with_reducible show wpList _ _ _ (_ :: _) _ _); (with_reducible apply wpl_storeBH); (· first | exact cell_party | exact cell_i64); (· rfl); (· rfl); (· rfl); (· exact H); (· (repeat (first | (with_reducible exact List.mem_cons_self) | with_reducible apply List.mem_cons_of_mem))); (· (simp only [flow_sz, Nat.reduceLT]; done)); (· (with_reducible first | exact flow_s0 .. | exact flow_s1 .. | exact flow_s2 ..)); (· (repeat (first | (with_reducible exact Repl.here) | with_reducible apply Repl.there))); (clear H; intro _ H); (simp only [Act.put, List.setIfInBounds_toArray, List.set_cons_zero, List.set_cons_succ])) | ((with_reducible show wpList _ _ _ (_ :: _) _ _); (with_reducible apply wpl_storeSH); (· first | exact cell_party | exact cell_i64); (· rfl); (· rfl); (· rfl); (· exact H); (· (repeat (first | (with_reducible exact List.mem_cons_self) | with_reducible apply List.mem_cons_of_mem))); (· (simp only [flow_sz, Nat.reduceLT]; done)); (· (with_reducible first | exact flow_s0 .. | exact flow_s1 .. | exact flow_s2 ..)); (· (repeat (first | (with_reducible exact Repl.here) | with_reducible apply Repl.there))); (clear H; intro _ H); (simp only [Act.put, List.setIfInBounds_toArray, List.set_cons_zero, List.set_cons_succ])) | ((with_reducible show wpList _ _ _ (_ :: _) _ _); (with_reducible apply wpl_storePH); (· first | exact cell_party | exact cell_i64); (· rfl); (· rfl); (· rfl); (· exact H); (· (repeat (first | (with_reducible exact List.mem_cons_self) | with_reducible apply List.mem_cons_of_mem))); (· (simp only [flow_sz, Nat.reduceLT]; done)); (· (with_reducible first | exact flow_s0 .. | exact flow_s1 .. | exact flow_s2 ..)); (· (repeat (first | (with_reducible exact Repl.here) | with_reducible apply Repl.there))); (clear H; intro _ H); (simp only [Act.put, List.setIfInBounds_toArray, List.set_cons_zero, List.set_cons_succ])))
                  | ((with_reducible show wpList _ _ _ (_ :: _) _ _); (with_reducible apply wpl_loadRH row_flow); (· rfl); (· rfl); (· exact H); (· (repeat (first | (with_reducible exact List.mem_cons_self) | with_reducible apply List.mem_cons_of_mem))); (· (simp only [flow_sz, Nat.reduceAdd, Nat.reduceLeDiff, Nat.le_refl]; done)); (· with_reducible exact flow_all ..); (simp only [Act.put, List.setIfInBounds_toArray, List.set_cons_zero, List.set_cons_succ]))
                  | ((with_reducible show wpList _ _ _ (_ :: _) _ _); (with_reducible apply wpl_bsRH); (· rfl); (· rfl); (· exact bs_flow); (· exact rfl); (· exact H); (clear H; intro pf _ H); (simp only [Act.put, List.setIfInBounds_toArray, List.set_cons_zero, List.set_cons_succ]))
                  | ((with_reducible show wpList _ _ _ (_ :: _) _ _); (with_reducible apply wpl_appendH slF); (· rfl); (· rfl); (· rfl); (· rfl); (· exact H.pull (.there (.there .here))); (· exact H.celRd List.mem_cons_self); (· rfl); (· exact flowC_one _ _ _); (· exact hn1); (· exact hn2); (clear H; intro v2 _ H); (simp only [Act.put, List.setIfInBounds_toArray, List.set_cons_zero, List.set_cons_succ])))
                refine ⟨?_, ?_⟩
                · refine ⟨⟨y + 1, by go_num, by omega, by omega, ?_⟩⟩
                  have e : rowE c' x (y + 1) = rowE c' x y := by rw [HR.out, HV2.out, if_neg (by omega), List.append_nil]
                  rw [e]
                  exact H.tail
                · simp [intOf]; omega
        · obtain rfl : y = 17 := by omega
          have g2 : decide (((17 : Nat) : Int) ≤ 16) = false := by decide
          go_wp2_with (go_skip)
          go_roundw
          case rel => exact ⟨⟨x + 1, by go_num, by omega, by omega, H⟩⟩
          case measure => simp [intOf]; omega
    · obtain rfl : x = 17 := by omega
      obtain ⟨a2, c2, rfl, _, _⟩ := rowT_form (H.ok _ List.mem_cons_self)
      have H2 : Heap W (FlT (.slice a2 (edgesOf c').length c2) (edgesOf c').length (edgesOf c') :: RgT p (.slice a N cc) :: FlT (.slice a N cc) N (edgesOf c) :: l) wr := H
      clear H
      have H := H2
      clear H2
      rw [show (matE c' 17).length = (edgesOf c').length from rfl]
      generalize hN2 : (edgesOf c').length = N2 at *
      have HN2 := Lib.hid hN2
      clear hN2
      go_wp2_with (first
        | go_skip
        | ((with_reducible show wpList _ _ _ (_ :: _) _ _); (with_reducible apply wpl_storeSH); (· exact cell_flows); (· rfl); (· rfl); (· rfl); (· exact H); (· (repeat (first | (with_reducible exact List.mem_cons_self) | with_reducible apply List.mem_cons_of_mem))); (· exact Nat.le_refl 1); (· rfl); (· (repeat (first | (with_reducible exact Repl.here) | with_reducible apply Repl.there))); (clear H; intro _ H); (simp only [Act.put, List.setIfInBounds_toArray, List.set_cons_zero, List.set_cons_succ])))
      go_end0
      have H3 := (H.drop (.there (.there .here))).perm (.swap _ _ _)
      rw [← HN2.out] at H3
      exact ⟨rfl, a2, c2, H3⟩
end
end Go.Proofs.Ytglehneaphigdaa
