/- FlowsMost: part 17 of its proof: LawFlowsCut, LawFlowsCut2, LawFlowsMost. -/
import Derived.Test.YtglehneaphigdaaFlowsMostPart16
/- FlowsCut: its walk. -/
namespace Go.Proofs.Ytglehneaphigdaa
open Go.RowKit
set_option linter.unusedSimpArgs false
set_option linter.unusedVariables false
section
variable {ops : Array Oper} {rest : List Oper} {a : Act} {w W : World} {l : List Thing}
theorem wpQ_loadRdC {T : TypeId} {dst : Option Tmp} {ty : TypeId} {pos : String} {after : Array Edge} {guard : Option (Nat × Bool)} {x : Operand} {b off : Nat} {K : Act → Prop} {H : Heap W l w} (CT : CellTy T) (hw : Region.wanted ⟨dst, .load T x, ty, pos, after, guard⟩ (yielded ops a.tmps) = true) (hx : a.eval x = .pointer (some ⟨b, off, none⟩))
    {o k : Nat} {xs : List Value} {v : Value} (R : ∀ w', Heap W l w' → Rd w' (some ⟨b, o, none⟩) xs) (hk : off = o + k) (hv : xs[k]? = some v)
    (h : wpQuiet Try.prog ops (fun w' => ∃ d, w' = H.any d) K rest (a.put dst v)) : wpQuiet Try.prog ops (fun w' => ∃ d, w' = H.any d) K (⟨dst, .load T x, ty, pos, after, guard⟩ :: rest) a := by
  subst hk
  exact wpQ_loadCell CT hw hx (fun w' H' => by
    have h1 : k < xs.length := by
      apply Classical.byContradiction
      intro hn
      rw [List.getElem?_eq_none (by omega)] at hv
      cases hv
    have h2 := (R w' H').get h1
    rw [List.getElem?_eq_getElem h1] at hv
    rw [h2]; exact hv) h
end
theorem flwL_cells {F : List Flw} {k : Nat} {x : Flw} (h : F[k]? = some x) : (flwL F)[k * 3]? = some (.int .u8 (x.f : Int)) ∧ (flwL F)[k * 3 + 1]? = some (.int .u8 (x.t : Int)) ∧ (flwL F)[k * 3 + 2]? = some (.int .i64 x.n) := by
  obtain ⟨h1, h2⟩ := flwL_row h
  have h3 := congrArg Array.toList h2
  simp only [flow] at h3
  have g : ∀ i, i < 3 → (flwL F)[k * 3 + i]? = ((((flwL F).drop (k * 3)).take 3))[i]? := fun i hi => by
    rw [List.getElem?_take_of_lt hi, List.getElem?_drop]
  refine ⟨?_, ?_, ?_⟩
  · have := g 0 (by omega); rw [h3] at this; simpa using this
  · have := g 1 (by omega); rw [h3] at this; simpa using this
  · have := g 2 (by omega); rw [h3] at this; simpa using this
def cutM (N : BitVec 32) (f t : Nat) : BitVec 32 := (N &&& ~~~(1#32 <<< t)) ||| (1#32 <<< f)
theorem cutM_f (N : BitVec 32) {f t : Nat} (hf : f < 32) : (cutM N f t).getLsbD f = true := by
  unfold cutM; rw [getL_or _ _ _ hf]; simp
theorem cutM_t (N : BitVec 32) {f t : Nat} (hf : f < 32) (ht : t < 32) (hne : f ≠ t) : (cutM N f t).getLsbD t = false := by
  have e : (1#32 <<< t).getLsbD t = true := by
    have := getL_or 0#32 t t ht
    simpa using this
  unfold cutM
  rw [getL_or _ _ _ hf, BitVec.getLsbD_and, BitVec.getLsbD_not, e]
  simp
  exact fun e => hne e.symm
structure FcL (W : World) (B : List Thing) (c : Caps) (P : List Flw) (p : Nat) (i : Value) (wr : World) : Prop where
  out : ∃ k : Nat, i = .int .i64 (k : Int) ∧ k ≤ P.length ∧ Heap W (Gr p (pushL c (P.take k)) :: B) wr
section
variable {W w : World} {l : List Thing}
set_option maxRecDepth 100000
set_option maxHeartbeats 4000000
theorem fcut_odd (a : Option Addr) (n c f t : Nat) (k z : Int) (h : 300 < n ∨ f = t ∨ f < 1 ∨ 16 < f ∨ t < 1 ∨ 16 < t) (hn : n ≤ 9223372036854775807) (hf : f ≤ 255) (ht : t ≤ 255) (H : Heap W l w) : Calls Try.prog 5 #[.slice a n c, .agg (flow (f : Int) (t : Int) k), .int .u32 z] w fun e w' => e = .returned (.bool true) ∧ Heap W l w' := by
  have L := fun (l : List Thing) (V : World) (H : Heap W l V) => lives07_H (W := W) (l := l) (w := V) H
  go_enter Try.func5, Try.ntmps5
  by_cases h1 : 300 < n
  · have d1 : decide ((n : Int) > 300) = true := by simp; omega
    have d2 : decide ((300 : Int) < n) = true := by simp; omega
    go_wp2_with (first | go_skip | ((with_reducible show wpList _ _ _ (_ :: _) _ _); (with_reducible apply wpl_boxRH); (· rfl); (· rfl); (· exact H); (clear H; intro pb _ H); (simp only [Act.put, List.setIfInBounds_toArray, List.set_cons_zero, List.set_cons_succ])) | ((with_reducible show wpList _ _ _ (_ :: _) _ _); (with_reducible apply wpl_loadCH); (· first | exact cell_party | exact cell_i64); (· rfl); (· rfl); (· exact H); (· (repeat (first | (with_reducible exact List.mem_cons_self) | with_reducible apply List.mem_cons_of_mem))); (· (with_reducible first | exact flow_g0 .. | exact flow_g1 .. | exact flow_g2 ..)); (simp only [Act.put, List.setIfInBounds_toArray, List.set_cons_zero, List.set_cons_succ])) | ((with_reducible refine (L _ _ H).mono ?_); clear H; rintro _ _ ⟨rfl, H⟩))
    go_ret
    exact ⟨rfl, H.tail⟩
  have d1 : decide ((n : Int) > 300) = false := by simp; omega
  have d2 : decide ((300 : Int) < n) = false := by simp; omega
  by_cases h2 : f = t
  · have e1 : ((f : Int) == (t : Int)) = true := by simp; omega
    go_wp2_with (first | go_skip | ((with_reducible show wpList _ _ _ (_ :: _) _ _); (with_reducible apply wpl_boxRH); (· rfl); (· rfl); (· exact H); (clear H; intro pb _ H); (simp only [Act.put, List.setIfInBounds_toArray, List.set_cons_zero, List.set_cons_succ])) | ((with_reducible show wpList _ _ _ (_ :: _) _ _); (with_reducible apply wpl_loadCH); (· first | exact cell_party | exact cell_i64); (· rfl); (· rfl); (· exact H); (· (repeat (first | (with_reducible exact List.mem_cons_self) | with_reducible apply List.mem_cons_of_mem))); (· (with_reducible first | exact flow_g0 .. | exact flow_g1 .. | exact flow_g2 ..)); (simp only [Act.put, List.setIfInBounds_toArray, List.set_cons_zero, List.set_cons_succ])) | ((with_reducible refine (L _ _ H).mono ?_); clear H; rintro _ _ ⟨rfl, H⟩))
    go_ret
    exact ⟨rfl, H.tail⟩
  have e1 : ((f : Int) == (t : Int)) = false := by simp; omega
  by_cases h3 : f < 1
  · have e2 : decide ((f : Int) < 1) = true := by simp; omega
    go_wp2_with (first | go_skip | ((with_reducible show wpList _ _ _ (_ :: _) _ _); (with_reducible apply wpl_boxRH); (· rfl); (· rfl); (· exact H); (clear H; intro pb _ H); (simp only [Act.put, List.setIfInBounds_toArray, List.set_cons_zero, List.set_cons_succ])) | ((with_reducible show wpList _ _ _ (_ :: _) _ _); (with_reducible apply wpl_loadCH); (· first | exact cell_party | exact cell_i64); (· rfl); (· rfl); (· exact H); (· (repeat (first | (with_reducible exact List.mem_cons_self) | with_reducible apply List.mem_cons_of_mem))); (· (with_reducible first | exact flow_g0 .. | exact flow_g1 .. | exact flow_g2 ..)); (simp only [Act.put, List.setIfInBounds_toArray, List.set_cons_zero, List.set_cons_succ])) | ((with_reducible refine (L _ _ H).mono ?_); clear H; rintro _ _ ⟨rfl, H⟩))
    go_ret
    exact ⟨rfl, H.tail⟩
  have e2 : decide ((f : Int) < 1) = false := by simp; omega
  by_cases h4 : 16 < f
  · have e3 : decide ((f : Int) > 16) = true := by simp; omega
    have e4 : decide (16 < (f : Int)) = true := by simp; omega
    go_wp2_with (first | go_skip | ((with_reducible show wpList _ _ _ (_ :: _) _ _); (with_reducible apply wpl_boxRH); (· rfl); (· rfl); (· exact H); (clear H; intro pb _ H); (simp only [Act.put, List.setIfInBounds_toArray, List.set_cons_zero, List.set_cons_succ])) | ((with_reducible show wpList _ _ _ (_ :: _) _ _); (with_reducible apply wpl_loadCH); (· first | exact cell_party | exact cell_i64); (· rfl); (· rfl); (· exact H); (· (repeat (first | (with_reducible exact List.mem_cons_self) | with_reducible apply List.mem_cons_of_mem))); (· (with_reducible first | exact flow_g0 .. | exact flow_g1 .. | exact flow_g2 ..)); (simp only [Act.put, List.setIfInBounds_toArray, List.set_cons_zero, List.set_cons_succ])) | ((with_reducible refine (L _ _ H).mono ?_); clear H; rintro _ _ ⟨rfl, H⟩))
    go_ret
    exact ⟨rfl, H.tail⟩
  have e3 : decide ((f : Int) > 16) = false := by simp; omega
  have e4 : decide (16 < (f : Int)) = false := by simp; omega
  by_cases h5 : t < 1
  · have e5 : decide ((t : Int) < 1) = true := by simp; omega
    go_wp2_with (first | go_skip | ((with_reducible show wpList _ _ _ (_ :: _) _ _); (with_reducible apply wpl_boxRH); (· rfl); (· rfl); (· exact H); (clear H; intro pb _ H); (simp only [Act.put, List.setIfInBounds_toArray, List.set_cons_zero, List.set_cons_succ])) | ((with_reducible show wpList _ _ _ (_ :: _) _ _); (with_reducible apply wpl_loadCH); (· first | exact cell_party | exact cell_i64); (· rfl); (· rfl); (· exact H); (· (repeat (first | (with_reducible exact List.mem_cons_self) | with_reducible apply List.mem_cons_of_mem))); (· (with_reducible first | exact flow_g0 .. | exact flow_g1 .. | exact flow_g2 ..)); (simp only [Act.put, List.setIfInBounds_toArray, List.set_cons_zero, List.set_cons_succ])) | ((with_reducible refine (L _ _ H).mono ?_); clear H; rintro _ _ ⟨rfl, H⟩))
    go_ret
    exact ⟨rfl, H.tail⟩
  have e5 : decide ((t : Int) < 1) = false := by simp; omega
  have e6 : decide ((t : Int) > 16) = true := by simp; omega
  have e7 : decide (16 < (t : Int)) = true := by simp; omega
  go_wp2_with (first | go_skip | ((with_reducible show wpList _ _ _ (_ :: _) _ _); (with_reducible apply wpl_boxRH); (· rfl); (· rfl); (· exact H); (clear H; intro pb _ H); (simp only [Act.put, List.setIfInBounds_toArray, List.set_cons_zero, List.set_cons_succ])) | ((with_reducible show wpList _ _ _ (_ :: _) _ _); (with_reducible apply wpl_loadCH); (· first | exact cell_party | exact cell_i64); (· rfl); (· rfl); (· exact H); (· (repeat (first | (with_reducible exact List.mem_cons_self) | with_reducible apply List.mem_cons_of_mem))); (· (with_reducible first | exact flow_g0 .. | exact flow_g1 .. | exact flow_g2 ..)); (simp only [Act.put, List.setIfInBounds_toArray, List.set_cons_zero, List.set_cons_succ])) | ((with_reducible refine (L _ _ H).mono ?_); clear H; rintro _ _ ⟨rfl, H⟩))
  go_ret
  exact ⟨rfl, H.tail⟩
theorem fcut_none (a : Option Addr) (n c0 f t : Nat) (k z : Int) (F : List Flw) (h : n ≤ 300) (hne : f ≠ t) (hf1 : 1 ≤ f) (hf : f ≤ 16) (ht1 : 1 ≤ t) (ht : t ≤ 16) (hl : F.length = n) (hF : ∀ x ∈ F, FlwOk x) (R : ∀ l' w', (∀ x ∈ l, x ∈ l') → Heap W l' w' → Rd w' a (flwL F)) (hG : newG F = none) (H : Heap W l w) : Calls Try.prog 5 #[.slice a n c0, .agg (flow (f : Int) (t : Int) k), .int .u32 z] w fun e w' => e = .returned (.bool true) ∧ Heap W l w' := by
  have d1 : decide ((n : Int) > 300) = false := by simp; omega
  have d2 : decide ((300 : Int) < n) = false := by simp; omega
  have e1 : ((f : Int) == (t : Int)) = false := by simp; omega
  have e2 : decide ((f : Int) < 1) = false := by simp; omega
  have e3 : decide ((f : Int) > 16) = false := by simp; omega
  have e4 : decide (16 < (f : Int)) = false := by simp; omega
  have e5 : decide ((t : Int) < 1) = false := by simp; omega
  have e6 : decide ((t : Int) > 16) = false := by simp; omega
  have e7 : decide (16 < (t : Int)) = false := by simp; omega
  have L := fun (l : List Thing) (V : World) (H : Heap W l V) => lives07_H (W := W) (l := l) (w := V) H
  have N := fun (x : Thing) (V : World) (H : Heap W (x :: l) V) => new_H (W := W) (l := x :: l) (w := V) a n c0 F hl (by omega) hF (fun w' h => R _ w' (fun y hy => List.mem_cons_of_mem _ hy) h) H
  rw [hG] at N
  clear hl hF R hG
  go_enter Try.func5, Try.ntmps5
  go_wp2_with (first | go_skip | ((with_reducible show wpList _ _ _ (_ :: _) _ _); (with_reducible apply wpl_boxRH); (· rfl); (· rfl); (· exact H); (clear H; intro pb _ H); (simp only [Act.put, List.setIfInBounds_toArray, List.set_cons_zero, List.set_cons_succ])) | ((with_reducible show wpList _ _ _ (_ :: _) _ _); (with_reducible apply wpl_loadCH); (· first | exact cell_party | exact cell_i64); (· rfl); (· rfl); (· exact H); (· (repeat (first | (with_reducible exact List.mem_cons_self) | with_reducible apply List.mem_cons_of_mem))); (· (with_reducible first | exact flow_g0 .. | exact flow_g1 .. | exact flow_g2 ..)); (simp only [Act.put, List.setIfInBounds_toArray, List.set_cons_zero, List.set_cons_succ])))
  refine (N _ _ H).mono ?_
  clear N H
  rintro _ _ ⟨rfl, H⟩
  go_wp2_with (first | go_skip | ((with_reducible refine (L _ _ H).mono ?_); clear H; rintro _ _ ⟨rfl, H⟩))
  go_ret
  exact ⟨rfl, H.tail⟩
end
end Go.Proofs.Ytglehneaphigdaa

/- FlowsCut: its walk, where there is a graph. -/
namespace Go.Proofs.Ytglehneaphigdaa
open Go.RowKit
set_option linter.unusedSimpArgs false
set_option linter.unusedVariables false
theorem bits32_andNot (a b : BitVec 32) : bits .andNot .u32 (I32 a) (I32 b) = I32 (a &&& ~~~b) := by
  have h : bits .andNot .u32 (I32 a) (I32 b) = IntKind.u32.wrap ((BitVec.ofInt 32 (I32 a) &&& ~~~(BitVec.ofInt 32 (I32 b))).toNat : Int) := rfl
  rw [h, ofInt_I32, ofInt_I32, wrap_I32]
theorem cutM_bits (Z : BitVec 32) (f t : Nat) : bits .or .u32 (bits .andNot .u32 (I32 Z) (2 ^ t % 4294967296)) (2 ^ f % 4294967296) = I32 (cutM Z f t) := by
  rw [I32_bit, I32_bit, bits32_andNot, bits32_or]; rfl
section
variable {W w : World} {l : List Thing}
set_option maxRecDepth 100000
set_option maxHeartbeats 400000
theorem fcut_some (a : Option Addr) (n c0 f t : Nat) (k z : Int) (Z : BitVec 32) (hz : z = I32 Z) (F : List Flw) (c : Caps) (h : n ≤ 300) (hne : f ≠ t) (hf1 : 1 ≤ f) (hf : f ≤ 16) (ht1 : 1 ≤ t) (ht : t ≤ 16) (hk0 : -9223372036854775808 ≤ k) (hk : k ≤ 9223372036854775807) (hl : F.length = n) (hF : ∀ x ∈ F, FlwOk x) (R : ∀ l' w', (∀ x ∈ l, x ∈ l') → Heap W l' w' → Rd w' a (flwL F)) (hG : newG F = some c) (H : Heap W l w) : Calls Try.prog 5 #[.slice a n c0, .agg (flow (f : Int) (t : Int) k), .int .u32 z] w fun e w' => e = .returned (.bool true) ∧ Heap W l w' := by
  have d1 : decide ((n : Int) > 300) = false := by simp; omega
  have d2 : decide ((300 : Int) < n) = false := by simp; omega
  have e1 : ((f : Int) == (t : Int)) = false := by simp; omega
  have e2 : decide ((f : Int) < 1) = false := by simp; omega
  have e3 : decide ((f : Int) > 16) = false := by simp; omega
  have e4 : decide (16 < (f : Int)) = false := by simp; omega
  have e5 : decide ((t : Int) < 1) = false := by simp; omega
  have e6 : decide ((t : Int) > 16) = false := by simp; omega
  have e7 : decide (16 < (t : Int)) = false := by simp; omega
  have L := fun (l : List Thing) (V : World) (H : Heap W l V) => lives07_H (W := W) (l := l) (w := V) H
  have N := fun (x : Thing) (V : World) (H : Heap W (x :: l) V) => new_H (W := W) (l := x :: l) (w := V) a n c0 F hl (by omega) hF (fun w' h => R _ w' (fun y hy => List.mem_cons_of_mem _ hy) h) H
  rw [hG] at N
  have hpc := newG_play hG
  have S := fun (l : List Thing) (p : Nat) (m : Gr p c ∈ l) (V : World) (H : Heap W l V) => routeA_H (W := W) (l := l) (w := V) (p := p) c f t k (by omega) (by omega) hk hpc m H
  have HG := Lib.hid hG
  have HPC := Lib.hid hpc
  have HZ := Lib.hid hz
  clear hz
  have mf : mayP f = true := by simp [mayP]; omega
  have mt : mayP t = true := by simp [mayP]; omega
  clear hl hF R hG hpc
  go_enter Try.func5, Try.ntmps5
  go_wp2_with (first | go_skip | ((with_reducible show wpList _ _ _ (_ :: _) _ _); (with_reducible apply wpl_boxRH); (· rfl); (· rfl); (· exact H); (clear H; intro pb _ H); (simp only [Act.put, List.setIfInBounds_toArray, List.set_cons_zero, List.set_cons_succ])) | ((with_reducible show wpList _ _ _ (_ :: _) _ _); (with_reducible apply wpl_loadCH); (· first | exact cell_party | exact cell_i64); (· rfl); (· rfl); (· exact H); (· (repeat (first | (with_reducible exact List.mem_cons_self) | with_reducible apply List.mem_cons_of_mem))); (· (with_reducible first | exact flow_g0 .. | exact flow_g1 .. | exact flow_g2 ..)); (simp only [Act.put, List.setIfInBounds_toArray, List.set_cons_zero, List.set_cons_succ])))
  refine (N _ _ H).mono ?_
  clear N H
  rintro _ _ ⟨p, rfl, H⟩
  go_wp2_with (first | go_skip | ((with_reducible show wpList _ _ _ (_ :: _) _ _); (with_reducible apply wpl_loadCH); (· first | exact cell_party | exact cell_i64); (· rfl); (· rfl); (· exact H); (· (repeat (first | (with_reducible exact List.mem_cons_self) | with_reducible apply List.mem_cons_of_mem))); (· (with_reducible first | exact flow_g0 .. | exact flow_g1 .. | exact flow_g2 ..)); (simp only [Act.put, List.setIfInBounds_toArray, List.set_cons_zero, List.set_cons_succ])))
  refine (most_H (p := p) c f t (by omega) (by omega) HPC.out (by (repeat (first | (with_reducible exact List.mem_cons_self) | with_reducible apply List.mem_cons_of_mem))) H).mono ?_
  clear H
  rintro e w1 ⟨Q, most, rfl, hm, H⟩
  obtain ⟨l1, l2, l3⟩ := hm.left HPC.out
  have l4 := (hm.done HPC.out).2.1
  have bc := HPC.out.cutB (fun p => decide (p = f))
  have lc := l1 (fun p => decide (p = f)) (by simp) (by simp; exact fun e => hne e.symm)
  have gz := (pushL_play Q HPC.out).good.cut0 (fun p => decide (p = f))
  have lm := l1 (cutM Z f t).getLsbD (cutM_f Z (by omega)) (cutM_t Z (by omega) (by omega) hne)
  have gm := (pushL_play Q HPC.out).good.cut0 (cutM Z f t).getLsbD
  have CC : AnsH W (Gr p c :: Cel pb (flow (f : Int) (t : Int) k) 49 :: l) 32 #[.pointer (some ⟨p, 0, none⟩), .int .u32 (bits .or .u32 (bits .andNot .u32 z (2 ^ t % 4294967296)) (2 ^ f % 4294967296)), .int .i64 (most - 1)] (.bool false) := by
    rw [HZ.out, cutM_bits]
    have := cut_H (W := W) (l := Gr p c :: Cel pb (flow (f : Int) (t : Int) k) 49 :: l) (p := p) c (cutM Z f t) (most - 1) HPC.out List.mem_cons_self
    rw [decide_eq_false (by omega)] at this
    exact this
  have g1 : decide (most < 0) = false := by simp; omega
  have HM := Lib.hid hm
  have hmax : most ≤ 1271035441709056 := by omega
  clear hm l1 l2 l3 bc lc gz lm gm
  by_cases hm0 : 0 < most
  · have g2 : decide (most > 0) = true := by simpa using hm0
    have g3 : decide (0 < most) = true := by simpa using hm0
    go_wp2_with (first | go_skip | ((with_reducible show wpList _ _ _ (_ :: _) _ _); (with_reducible apply wpl_loadCH); (· first | exact cell_party | exact cell_i64); (· rfl); (· rfl); (· exact H); (· (repeat (first | (with_reducible exact List.mem_cons_self) | with_reducible apply List.mem_cons_of_mem))); (· (with_reducible first | exact flow_g0 .. | exact flow_g1 .. | exact flow_g2 ..)); (simp only [Act.put, List.setIfInBounds_toArray, List.set_cons_zero, List.set_cons_succ])) | ((with_reducible refine AnsH.call (by assumption) H ?_); clear H; intro _ H))
    clear CC
    refine (S _ p (by (repeat (first | (with_reducible exact List.mem_cons_self) | with_reducible apply List.mem_cons_of_mem))) _ H).mono ?_
    clear H S
    rintro e w2 ⟨va, P, got, rfl, hr, H⟩
    have hle := hr.len HPC.out
    have hfit := (hr.done HPC.out).1
    have h2 := fun (R : List Flw) (m2 : Int) (hm2 : RouteOut f t (pushL c P) 9223372036854775807 R m2) => hr.twice HPC.out mf mt hne HM.out hm2
    have hg0 := (hr.done HPC.out).2.1
    have hgm := (hr.left HPC.out).2.2
    have HP := Lib.hid (And.intro hfit h2)
    clear hr hfit h2
    obtain ⟨ln, hln⟩ : ∃ ln, P.length = ln := ⟨_, rfl⟩
    rw [hln] at H hle
    obtain ⟨aa, ca, rfl⟩ := OwnT.form0 (H.ok _ List.mem_cons_self)
    have HL := Lib.hid hln
    clear hln
    go_wp2_with (first | go_skip)
    go_loopw [12] (FcL W (OwnT 35 3 (.slice aa ln ca) ln (flwL P) :: Cel pb (flow (f : Int) (t : Int) k) 49 :: l) c P p) (fun i _ => ln - (intOf i).toNat)
    case atStart => exact ⟨⟨0, rfl, by omega, H.perm (.swap _ _ _)⟩⟩
    case round =>
      obtain ⟨i, rfl, hi, H'⟩ := hrel.out
      clear H hrel
      have H := H'
      clear H'
      rw [HL.out] at hi
      by_cases hlt : i < ln
      · have hx : P[i]? = some (P[i]'(by rw [HL.out]; exact hlt)) := List.getElem?_eq_getElem _
        generalize P[i]'(by rw [HL.out]; exact hlt) = x at hx
        obtain ⟨xf, xt, xn⟩ := x
        have hat := HP.out.1.at hx
        have hcs := flwL_cells hx
        simp only at hat hcs
        obtain ⟨ga, oa, rfl, _⟩ := (H.ownRd (a := aa) (List.mem_cons_of_mem _ List.mem_cons_self)).lt (by rw [flwL_len, HL.out]; omega)
        have HAT := Lib.hid (And.intro hat hcs)
        clear hat hcs hx
        go_wp2_with (go_skip)
        refine wp_region_K [16] [0, 1, 2, 3, 4, 5, 6, 7, 8, 9, 10, 11, 12, 13, 14, 15, 16] [OwnT 35 3 (.slice (some ⟨ga, oa, none⟩) ln ca) ln (flwL P)] H (fun t ht => by rw [List.mem_singleton.1 ht]; (repeat (first | (with_reducible exact List.mem_cons_self) | with_reducible apply List.mem_cons_of_mem))) (by kernel_rfl) (by kernel_rfl) ?_
        iterate 16 (apply wpK_step; (· rfl); (· rfl); (· rfl); (· exact Nat.le_of_ble_eq_true rfl); (· intro l0 hs0 w0 H0; (first | go_big_quiet_skip | ((with_reducible apply wpQ_loadRdC); (· first | exact cell_party | exact cell_i64); (· rfl); (· rfl); (· exact fun w' H' => H'.ownRd (hs0 _ (by (repeat (first | (with_reducible exact List.mem_cons_self) | with_reducible apply List.mem_cons_of_mem))))); (· first | exact Nat.add_assoc _ _ _ | rfl); (· first | exact HAT.out.2.1 | exact HAT.out.2.2.1 | exact HAT.out.2.2.2); (simp only [Act.put, List.setIfInBounds_toArray, List.set_cons_zero, List.set_cons_succ])) | go_big_quiet_step (fail)); (refine wpQuiet_nil ?_); (simp only [Array.getD_eq_getD_getElem?, List.getElem?_toArray, List.getElem?_cons_succ, List.getElem?_cons_zero, Option.getD_some]; rfl)); (simp only [Act.put, List.setIfInBounds_toArray, List.set_cons_zero, List.set_cons_succ]))
        refine wpK_call (f := 19) (argl := [.pointer (some ⟨p, 0, none⟩), .int .u8 (xf : Int), .int .u8 (xt : Int), .int .i64 xn]) rfl rfl rfl Try.call19 rfl ?_
        intro w0 H0
        refine (gpush_H (p := p) xf xt xn (by have := HAT.out.1.1; omega) (by have := HAT.out.1.1; omega) (pushL_play _ HPC.out) H0).mono ?_
        clear H0
        rintro e w3 ⟨rfl, H1⟩
        refine ⟨_, _, rfl, H1, _, Keeps.refl _, fun t ht => by rw [List.mem_singleton.1 ht]; (repeat (first | (with_reducible exact List.mem_cons_self) | with_reducible apply List.mem_cons_of_mem)), ?_⟩
        clear H1
        (simp only [Act.put, List.setIfInBounds_toArray, List.set_cons_zero, List.set_cons_succ])
        (refine wpK_nil ?_; clear H; intro _ H)
        go_wp2_with (go_skip)
        refine ⟨?_, ?_⟩
        · exact ⟨⟨i + 1, by go_num, by rw [HL.out]; omega, by rw [HAT.out.1.2.1]; exact H⟩⟩
        · simp [intOf]; omega
      · obtain rfl : i = ln := by omega
        rw [← HL.out, List.take_length, HL.out] at H
        go_wp2_with (first | go_skip | ((with_reducible show wpList _ _ _ (_ :: _) _ _); (with_reducible apply wpl_loadCH); (· first | exact cell_party | exact cell_i64); (· rfl); (· rfl); (· exact H); (· (repeat (first | (with_reducible exact List.mem_cons_self) | with_reducible apply List.mem_cons_of_mem))); (· (with_reducible first | exact flow_g0 .. | exact flow_g1 .. | exact flow_g2 ..)); (simp only [Act.put, List.setIfInBounds_toArray, List.set_cons_zero, List.set_cons_succ])))
        refine (most_H (p := p) (pushL c P) f t (by omega) (by omega) (pushL_play _ HPC.out) List.mem_cons_self H).mono ?_
        clear H
        rintro e w3 ⟨R, m2, rfl, hm2, H⟩
        obtain rfl := HP.out.2 R m2 hm2
        clear hm2
        go_wp2_with (first | go_skip | ((with_reducible refine (L _ _ H).mono ?_); clear H; rintro _ _ ⟨rfl, H⟩))
        go_ret
        exact ⟨rfl, H.tail.tail.tail⟩
  · have g2 : decide (most > 0) = false := by simp; omega
    have g3 : decide (0 < most) = false := by simp; omega
    go_wp2_with (first | go_skip | ((with_reducible show wpList _ _ _ (_ :: _) _ _); (with_reducible apply wpl_loadCH); (· first | exact cell_party | exact cell_i64); (· rfl); (· rfl); (· exact H); (· (repeat (first | (with_reducible exact List.mem_cons_self) | with_reducible apply List.mem_cons_of_mem))); (· (with_reducible first | exact flow_g0 .. | exact flow_g1 .. | exact flow_g2 ..)); (simp only [Act.put, List.setIfInBounds_toArray, List.set_cons_zero, List.set_cons_succ])) | ((with_reducible refine AnsH.call (by assumption) H ?_); clear H; intro _ H))
    clear CC
    refine (S _ p (by (repeat (first | (with_reducible exact List.mem_cons_self) | with_reducible apply List.mem_cons_of_mem))) _ H).mono ?_
    clear H S
    rintro e w2 ⟨va, P, got, rfl, hr, H⟩
    have hle := hr.len HPC.out
    have hfit := (hr.done HPC.out).1
    have h2 := fun (R : List Flw) (m2 : Int) (hm2 : RouteOut f t (pushL c P) 9223372036854775807 R m2) => hr.twice HPC.out mf mt hne HM.out hm2
    have hg0 := (hr.done HPC.out).2.1
    have hgm := (hr.left HPC.out).2.2
    have HP := Lib.hid (And.intro hfit h2)
    clear hr hfit h2
    obtain ⟨ln, hln⟩ : ∃ ln, P.length = ln := ⟨_, rfl⟩
    rw [hln] at H hle
    obtain ⟨aa, ca, rfl⟩ := OwnT.form0 (H.ok _ List.mem_cons_self)
    have HL := Lib.hid hln
    clear hln
    go_wp2_with (first | go_skip)
    go_loopw [12] (FcL W (OwnT 35 3 (.slice aa ln ca) ln (flwL P) :: Cel pb (flow (f : Int) (t : Int) k) 49 :: l) c P p) (fun i _ => ln - (intOf i).toNat)
    case atStart => exact ⟨⟨0, rfl, by omega, H.perm (.swap _ _ _)⟩⟩
    case round =>
      obtain ⟨i, rfl, hi, H'⟩ := hrel.out
      clear H hrel
      have H := H'
      clear H'
      rw [HL.out] at hi
      by_cases hlt : i < ln
      · have hx : P[i]? = some (P[i]'(by rw [HL.out]; exact hlt)) := List.getElem?_eq_getElem _
        generalize P[i]'(by rw [HL.out]; exact hlt) = x at hx
        obtain ⟨xf, xt, xn⟩ := x
        have hat := HP.out.1.at hx
        have hcs := flwL_cells hx
        simp only at hat hcs
        obtain ⟨ga, oa, rfl, _⟩ := (H.ownRd (a := aa) (List.mem_cons_of_mem _ List.mem_cons_self)).lt (by rw [flwL_len, HL.out]; omega)
        have HAT := Lib.hid (And.intro hat hcs)
        clear hat hcs hx
        go_wp2_with (go_skip)
        refine wp_region_K [16] [0, 1, 2, 3, 4, 5, 6, 7, 8, 9, 10, 11, 12, 13, 14, 15, 16] [OwnT 35 3 (.slice (some ⟨ga, oa, none⟩) ln ca) ln (flwL P)] H (fun t ht => by rw [List.mem_singleton.1 ht]; (repeat (first | (with_reducible exact List.mem_cons_self) | with_reducible apply List.mem_cons_of_mem))) (by kernel_rfl) (by kernel_rfl) ?_
        iterate 16 (apply wpK_step; (· rfl); (· rfl); (· rfl); (· exact Nat.le_of_ble_eq_true rfl); (· intro l0 hs0 w0 H0; (first | go_big_quiet_skip | ((with_reducible apply wpQ_loadRdC); (· first | exact cell_party | exact cell_i64); (· rfl); (· rfl); (· exact fun w' H' => H'.ownRd (hs0 _ (by (repeat (first | (with_reducible exact List.mem_cons_self) | with_reducible apply List.mem_cons_of_mem))))); (· first | exact Nat.add_assoc _ _ _ | rfl); (· first | exact HAT.out.2.1 | exact HAT.out.2.2.1 | exact HAT.out.2.2.2); (simp only [Act.put, List.setIfInBounds_toArray, List.set_cons_zero, List.set_cons_succ])) | go_big_quiet_step (fail)); (refine wpQuiet_nil ?_); (simp only [Array.getD_eq_getD_getElem?, List.getElem?_toArray, List.getElem?_cons_succ, List.getElem?_cons_zero, Option.getD_some]; rfl)); (simp only [Act.put, List.setIfInBounds_toArray, List.set_cons_zero, List.set_cons_succ]))
        refine wpK_call (f := 19) (argl := [.pointer (some ⟨p, 0, none⟩), .int .u8 (xf : Int), .int .u8 (xt : Int), .int .i64 xn]) rfl rfl rfl Try.call19 rfl ?_
        intro w0 H0
        refine (gpush_H (p := p) xf xt xn (by have := HAT.out.1.1; omega) (by have := HAT.out.1.1; omega) (pushL_play _ HPC.out) H0).mono ?_
        clear H0
        rintro e w3 ⟨rfl, H1⟩
        refine ⟨_, _, rfl, H1, _, Keeps.refl _, fun t ht => by rw [List.mem_singleton.1 ht]; (repeat (first | (with_reducible exact List.mem_cons_self) | with_reducible apply List.mem_cons_of_mem)), ?_⟩
        clear H1
        (simp only [Act.put, List.setIfInBounds_toArray, List.set_cons_zero, List.set_cons_succ])
        (refine wpK_nil ?_; clear H; intro _ H)
        go_wp2_with (go_skip)
        refine ⟨?_, ?_⟩
        · exact ⟨⟨i + 1, by go_num, by rw [HL.out]; omega, by rw [HAT.out.1.2.1]; exact H⟩⟩
        · simp [intOf]; omega
      · obtain rfl : i = ln := by omega
        rw [← HL.out, List.take_length, HL.out] at H
        go_wp2_with (first | go_skip | ((with_reducible show wpList _ _ _ (_ :: _) _ _); (with_reducible apply wpl_loadCH); (· first | exact cell_party | exact cell_i64); (· rfl); (· rfl); (· exact H); (· (repeat (first | (with_reducible exact List.mem_cons_self) | with_reducible apply List.mem_cons_of_mem))); (· (with_reducible first | exact flow_g0 .. | exact flow_g1 .. | exact flow_g2 ..)); (simp only [Act.put, List.setIfInBounds_toArray, List.set_cons_zero, List.set_cons_succ])))
        refine (most_H (p := p) (pushL c P) f t (by omega) (by omega) (pushL_play _ HPC.out) List.mem_cons_self H).mono ?_
        clear H
        rintro e w3 ⟨R, m2, rfl, hm2, H⟩
        obtain rfl := HP.out.2 R m2 hm2
        clear hm2
        go_wp2_with (first | go_skip | ((with_reducible refine (L _ _ H).mono ?_); clear H; rintro _ _ ⟨rfl, H⟩))
        go_ret
        exact ⟨rfl, H.tail.tail.tail⟩
end
end Go.Proofs.Ytglehneaphigdaa

/- FlowsMost: its walk. -/
namespace Go.Proofs.Ytglehneaphigdaa
open Go.RowKit
set_option linter.unusedSimpArgs false
set_option linter.unusedVariables false
theorem row_17l : RowTy 52 17 (row17 fun _ => 0) := ⟨⟨_, Try.underlying52, rfl⟩, by kernel_rfl, by kernel_rfl⟩
structure FmL (W : World) (B : List Thing) (c : Caps) (P : List Flw) (pg gc : Nat) (i : Value) (wr : World) : Prop where
  out : ∃ k : Nat, i = .int .i64 (k : Int) ∧ k ≤ P.length ∧ Heap W (Cel pg (row17 fun q => netP q (P.take k)) 52 :: Gr gc (pushL c (P.take k)) :: B) wr
structure FmP (W : World) (B : List Thing) (i : Value) (wr : World) : Prop where
  out : ∃ k : Nat, i = .int .u8 (k : Int) ∧ k ≤ 17 ∧ Heap W B wr
theorem pushR_ok {c : Caps} {a b : Nat} {m : Int} (h1 : 1 ≤ m) (h2 : m ≤ c a b) : pushR c a b m = 0 := by
  unfold pushR
  rw [if_neg (by omega), if_neg (by omega)]
section
variable {W w : World} {l : List Thing}
set_option maxRecDepth 100000
set_option maxHeartbeats 4000000
theorem fmost_many (a : Option Addr) (n c f t : Nat) (k : Int) (h : 300 < n) (hn : n ≤ 9223372036854775807) (H : Heap W l w) : Calls Try.prog 4 #[.slice a n c, .agg (flow (f : Int) (t : Int) k)] w fun e w' => e = .returned (.bool true) ∧ Heap W l w' := by
  have d1 : decide ((n : Int) > 300) = true := by simp; omega
  have d2 : decide ((300 : Int) < n) = true := by simp; omega
  have L := fun (l : List Thing) (V : World) (H : Heap W l V) => lives07_H (W := W) (l := l) (w := V) H
  go_enter Try.func4, Try.ntmps4
  go_wp2_with (first | go_skip | ((with_reducible show wpList _ _ _ (_ :: _) _ _); (with_reducible apply wpl_boxRH); (· rfl); (· rfl); (· exact H); (clear H; intro pb _ H); (simp only [Act.put, List.setIfInBounds_toArray, List.set_cons_zero, List.set_cons_succ])) | ((with_reducible refine (L _ _ H).mono ?_); clear H; rintro _ _ ⟨rfl, H⟩))
  go_ret
  exact ⟨rfl, H.tail⟩
theorem fmost_none (a : Option Addr) (n c0 f t : Nat) (k : Int) (F : List Flw) (h : n ≤ 300) (hl : F.length = n) (hF : ∀ x ∈ F, FlwOk x) (hf : f ≤ 255) (ht : t ≤ 255) (hk : k ≤ 9223372036854775807) (R : ∀ l' w', (∀ x ∈ l, x ∈ l') → Heap W l' w' → Rd w' a (flwL F)) (hG : newG F = none) (H : Heap W l w) : Calls Try.prog 4 #[.slice a n c0, .agg (flow (f : Int) (t : Int) k)] w fun e w' => e = .returned (.bool true) ∧ Heap W l w' := by
  have d1 : decide ((n : Int) > 300) = false := by simp; omega
  have d2 : decide ((300 : Int) < n) = false := by simp; omega
  have L := fun (l : List Thing) (V : World) (H : Heap W l V) => lives07_H (W := W) (l := l) (w := V) H
  have N := fun (x : Thing) (V : World) (H : Heap W (x :: l) V) => new_H (W := W) (l := x :: l) (w := V) a n c0 F hl (by omega) hF (fun w' h => R _ w' (fun y hy => List.mem_cons_of_mem _ hy) h) H
  rw [hG] at N
  have S := fun (l : List Thing) (V : World) (H : Heap W l V) => routeN_H (W := W) (l := l) (w := V) f t k hf ht hk H
  clear hl hF R hG
  go_enter Try.func4, Try.ntmps4
  go_wp2_with (first | go_skip | ((with_reducible show wpList _ _ _ (_ :: _) _ _); (with_reducible apply wpl_boxRH); (· rfl); (· rfl); (· exact H); (clear H; intro pb _ H); (simp only [Act.put, List.setIfInBounds_toArray, List.set_cons_zero, List.set_cons_succ])))
  refine (N _ _ H).mono ?_
  clear N H
  rintro _ _ ⟨rfl, H⟩
  go_wp2_with (first | go_skip | ((with_reducible show wpList _ _ _ (_ :: _) _ _); (with_reducible apply wpl_loadCH); (· first | exact cell_party | exact cell_i64); (· rfl); (· rfl); (· exact H); (· (repeat (first | (with_reducible exact List.mem_cons_self) | with_reducible apply List.mem_cons_of_mem))); (· (with_reducible first | exact flow_g0 .. | exact flow_g1 .. | exact flow_g2 ..)); (simp only [Act.put, List.setIfInBounds_toArray, List.set_cons_zero, List.set_cons_succ])))
  refine (S _ _ H).mono ?_
  clear H S
  rintro e w2 ⟨rfl, H⟩
  go_wp2_with (first | go_skip | ((with_reducible refine (L _ _ H).mono ?_); clear H; rintro _ _ ⟨rfl, H⟩))
  go_ret
  exact ⟨rfl, H.tail⟩
theorem fmost_odd (a : Option Addr) (n c0 f t : Nat) (k : Int) (F : List Flw) (c : Caps) (h : n ≤ 300) (ho : k < 1 ∨ f = t ∨ f < 1 ∨ 16 < f ∨ t < 1 ∨ 16 < t) (hf : f ≤ 255) (ht : t ≤ 255) (hk0 : -9223372036854775808 ≤ k) (hk : k ≤ 9223372036854775807) (hl : F.length = n) (hF : ∀ x ∈ F, FlwOk x) (R : ∀ l' w', (∀ x ∈ l, x ∈ l') → Heap W l' w' → Rd w' a (flwL F)) (hG : newG F = some c) (H : Heap W l w) : Calls Try.prog 4 #[.slice a n c0, .agg (flow (f : Int) (t : Int) k)] w fun e w' => e = .returned (.bool true) ∧ Heap W l w' := by
  have d1 : decide ((n : Int) > 300) = false := by simp; omega
  have d2 : decide ((300 : Int) < n) = false := by simp; omega
  have L := fun (l : List Thing) (V : World) (H : Heap W l V) => lives07_H (W := W) (l := l) (w := V) H
  have N := fun (x : Thing) (V : World) (H : Heap W (x :: l) V) => new_H (W := W) (l := x :: l) (w := V) a n c0 F hl (by omega) hF (fun w' h => R _ w' (fun y hy => List.mem_cons_of_mem _ hy) h) H
  rw [hG] at N
  have hpc := newG_play hG
  have S := fun (l : List Thing) (p : Nat) (m : Gr p c ∈ l) (V : World) (H : Heap W l V) => routeA_H (W := W) (l := l) (w := V) (p := p) c f t k hf ht hk hpc m H
  have hout : RouteOut f t c k [] 0 := by
    by_cases e : k ≤ 0
    · exact .no e
    · refine .stuck ?_
      rcases ho with h | h | h | h | h | h
      · omega
      · exact .inr (.inr h)
      · exact .inl (by simp [mayP]; omega)
      · exact .inl (by simp [mayP]; omega)
      · exact .inr (.inl (by simp [mayP]; omega))
      · exact .inr (.inl (by simp [mayP]; omega))
  clear hl hF R hG hpc
  go_enter Try.func4, Try.ntmps4
  go_wp2_with (first | go_skip | ((with_reducible show wpList _ _ _ (_ :: _) _ _); (with_reducible apply wpl_boxRH); (· rfl); (· rfl); (· exact H); (clear H; intro pb _ H); (simp only [Act.put, List.setIfInBounds_toArray, List.set_cons_zero, List.set_cons_succ])))
  refine (N _ _ H).mono ?_
  clear N H
  rintro _ _ ⟨p, rfl, H⟩
  go_wp2_with (first | go_skip | ((with_reducible show wpList _ _ _ (_ :: _) _ _); (with_reducible apply wpl_loadCH); (· first | exact cell_party | exact cell_i64); (· rfl); (· rfl); (· exact H); (· (repeat (first | (with_reducible exact List.mem_cons_self) | with_reducible apply List.mem_cons_of_mem))); (· (with_reducible first | exact flow_g0 .. | exact flow_g1 .. | exact flow_g2 ..)); (simp only [Act.put, List.setIfInBounds_toArray, List.set_cons_zero, List.set_cons_succ])))
  refine (S _ p (by (repeat (first | (with_reducible exact List.mem_cons_self) | with_reducible apply List.mem_cons_of_mem))) _ H).mono ?_
  clear H S
  rintro e w2 ⟨va, P, got, rfl, hr, H⟩
  obtain ⟨rfl, rfl⟩ := hr.eq hout
  clear hr hout
  obtain ⟨aa, ca, rfl⟩ := OwnT.form0 (H.ok _ List.mem_cons_self)
  by_cases h1 : k < 1
  · have b1 : decide (k < 1) = true := by simpa using h1
    go_wp2_with (first | go_skip | ((with_reducible show wpList _ _ _ (_ :: _) _ _); (with_reducible apply wpl_loadCH); (· first | exact cell_party | exact cell_i64); (· rfl); (· rfl); (· exact H); (· (repeat (first | (with_reducible exact List.mem_cons_self) | with_reducible apply List.mem_cons_of_mem))); (· (with_reducible first | exact flow_g0 .. | exact flow_g1 .. | exact flow_g2 ..)); (simp only [Act.put, List.setIfInBounds_toArray, List.set_cons_zero, List.set_cons_succ])) | ((with_reducible refine (L _ _ H).mono ?_); clear H; rintro _ _ ⟨rfl, H⟩))
    go_ret
    exact ⟨rfl, H.tail.tail.tail⟩
  have b1 : decide (k < 1) = false := by simpa using h1
  by_cases h2 : f = t
  · have e1 : ((f : Int) == (t : Int)) = true := by simp; omega
    go_wp2_with (first | go_skip | ((with_reducible show wpList _ _ _ (_ :: _) _ _); (with_reducible apply wpl_loadCH); (· first | exact cell_party | exact cell_i64); (· rfl); (· rfl); (· exact H); (· (repeat (first | (with_reducible exact List.mem_cons_self) | with_reducible apply List.mem_cons_of_mem))); (· (with_reducible first | exact flow_g0 .. | exact flow_g1 .. | exact flow_g2 ..)); (simp only [Act.put, List.setIfInBounds_toArray, List.set_cons_zero, List.set_cons_succ])) | ((with_reducible refine (L _ _ H).mono ?_); clear H; rintro _ _ ⟨rfl, H⟩))
    go_ret
    exact ⟨rfl, H.tail.tail.tail⟩
  have e1 : ((f : Int) == (t : Int)) = false := by simp; omega
  by_cases h3 : f < 1
  · have e2 : decide ((f : Int) < 1) = true := by simp; omega
    go_wp2_with (first | go_skip | ((with_reducible show wpList _ _ _ (_ :: _) _ _); (with_reducible apply wpl_loadCH); (· first | exact cell_party | exact cell_i64); (· rfl); (· rfl); (· exact H); (· (repeat (first | (with_reducible exact List.mem_cons_self) | with_reducible apply List.mem_cons_of_mem))); (· (with_reducible first | exact flow_g0 .. | exact flow_g1 .. | exact flow_g2 ..)); (simp only [Act.put, List.setIfInBounds_toArray, List.set_cons_zero, List.set_cons_succ])) | ((with_reducible refine (L _ _ H).mono ?_); clear H; rintro _ _ ⟨rfl, H⟩))
    go_ret
    exact ⟨rfl, H.tail.tail.tail⟩
  have e2 : decide ((f : Int) < 1) = false := by simp; omega
  by_cases h4 : 16 < f
  · have e3 : decide ((f : Int) > 16) = true := by simp; omega
    have e4 : decide (16 < (f : Int)) = true := by simp; omega
    go_wp2_with (first | go_skip | ((with_reducible show wpList _ _ _ (_ :: _) _ _); (with_reducible apply wpl_loadCH); (· first | exact cell_party | exact cell_i64); (· rfl); (· rfl); (· exact H); (· (repeat (first | (with_reducible exact List.mem_cons_self) | with_reducible apply List.mem_cons_of_mem))); (· (with_reducible first | exact flow_g0 .. | exact flow_g1 .. | exact flow_g2 ..)); (simp only [Act.put, List.setIfInBounds_toArray, List.set_cons_zero, List.set_cons_succ])) | ((with_reducible refine (L _ _ H).mono ?_); clear H; rintro _ _ ⟨rfl, H⟩))
    go_ret
    exact ⟨rfl, H.tail.tail.tail⟩
  have e3 : decide ((f : Int) > 16) = false := by simp; omega
  have e4 : decide (16 < (f : Int)) = false := by simp; omega
  by_cases h5 : t < 1
  · have e5 : decide ((t : Int) < 1) = true := by simp; omega
    go_wp2_with (first | go_skip | ((with_reducible show wpList _ _ _ (_ :: _) _ _); (with_reducible apply wpl_loadCH); (· first | exact cell_party | exact cell_i64); (· rfl); (· rfl); (· exact H); (· (repeat (first | (with_reducible exact List.mem_cons_self) | with_reducible apply List.mem_cons_of_mem))); (· (with_reducible first | exact flow_g0 .. | exact flow_g1 .. | exact flow_g2 ..)); (simp only [Act.put, List.setIfInBounds_toArray, List.set_cons_zero, List.set_cons_succ])) | ((with_reducible refine (L _ _ H).mono ?_); clear H; rintro _ _ ⟨rfl, H⟩))
    go_ret
    exact ⟨rfl, H.tail.tail.tail⟩
  have e5 : decide ((t : Int) < 1) = false := by simp; omega
  have e6 : decide ((t : Int) > 16) = true := by simp; omega
  have e7 : decide (16 < (t : Int)) = true := by simp; omega
  go_wp2_with (first | go_skip | ((with_reducible show wpList _ _ _ (_ :: _) _ _); (with_reducible apply wpl_loadCH); (· first | exact cell_party | exact cell_i64); (· rfl); (· rfl); (· exact H); (· (repeat (first | (with_reducible exact List.mem_cons_self) | with_reducible apply List.mem_cons_of_mem))); (· (with_reducible first | exact flow_g0 .. | exact flow_g1 .. | exact flow_g2 ..)); (simp only [Act.put, List.setIfInBounds_toArray, List.set_cons_zero, List.set_cons_succ])) | ((with_reducible refine (L _ _ H).mono ?_); clear H; rintro _ _ ⟨rfl, H⟩))
  go_ret
  exact ⟨rfl, H.tail.tail.tail⟩
end
end Go.Proofs.Ytglehneaphigdaa
