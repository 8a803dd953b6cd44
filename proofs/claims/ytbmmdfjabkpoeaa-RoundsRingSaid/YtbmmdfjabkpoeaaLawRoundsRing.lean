/- RoundsRing: its walk, its arguments. -/
import Derived.Test.YtbmmdfjabkpoeaaRndRPart8
namespace Go.Proofs.Ytbmmdfjabkpoeaa
open Go.ChangeShapes Go.WideShapes Go.ChangeAt Go.RowKit
set_option linter.unusedSimpArgs false
set_option linter.unusedVariables false
set_option maxRecDepth 100000
theorem flat_u16 : flat Try.prog 9 46 = some [46] := by kernel_rfl
theorem u16_cellsOf : Try.prog.cellsOf 46 = 1 := by kernel_rfl
theorem cell_u16r : CellTy 46 := ⟨⟨_, Try.underlying46, rfl⟩, by kernel_rfl⟩
/-- A list of uint16 that came in. -/
def U16sV (w : World) (v : Value) : Prop := ∃ (a : Option Addr) (n c : Nat) (Z : List Int), v = .slice a n c ∧ Z.length = n ∧ n ≤ c ∧ c ≤ maxLen ∧ Rd w a (Z.map (Value.int .u16)) ∧ ∀ z ∈ Z, 0 ≤ z ∧ z ≤ 65535
theorem u16s_of {w : World} : ∀ (n : Nat) (xs : List Value), xs.length = n * 1 → (∀ (i j : Nat) (u : TypeId), i < n → ([46] : List TypeId)[j]? = some u → ∃ v, xs[i * 1 + j]? = some v ∧ ∀ d, LeafOk Try.prog w d u v) → ∃ Z : List Int, Z.length = n ∧ xs = Z.map (Value.int .u16) ∧ ∀ z ∈ Z, 0 ≤ z ∧ z ≤ 65535
  | 0, xs, hl, _ => ⟨[], rfl, by simpa using hl, by simp⟩
  | n + 1, xs, hl, h => by
    rcases xs with _ | ⟨c0, ys⟩
    · simp at hl
    · obtain ⟨x0, h0, k0⟩ := h 0 0 _ (by omega) rfl
      simp at h0
      subst h0
      obtain ⟨z, rfl, hz⟩ := leaf_int Try.underlying46 k0
      obtain ⟨Z, hZ, rfl, hok⟩ := u16s_of n ys (by simp at hl; omega) (fun i j u hi hj => by
        obtain ⟨v, hv, hk⟩ := h (i + 1) j u (by omega) hj
        refine ⟨v, ?_, hk⟩
        rw [show (i + 1) * 1 + j = (i * 1 + j) + 1 by omega] at hv
        simpa using hv)
      exact ⟨z :: Z, by simp [hZ], rfl, fun y hy => by
        rcases List.mem_cons.1 hy with rfl | hy
        · exact bounds_u16 hz
        · exact hok y hy⟩
theorem open_u16sV {H : Type} {enc : TypeId × Value → H} {W : World} {held : Bool} {v : Value} {d : DataW H} {p : List MemPlace} {r : Reach} {b0 : Nat}
    (hval : Value.okWide Try.prog W r b0 45 v) (h : DataW.Trod enc Try.prog W 0 (fun _ => true) held 45 v d p) : U16sV W v := by
  have hk := fun d => open_sl Try.underlying45 hval h d
  obtain ⟨a, n, c, xs, rfl, hn, hc, hl, hr, _, hp⟩ := leaf_slice Try.underlying45 flat_u16 hk
  rw [u16_cellsOf] at hl hp
  obtain ⟨Z, hZ, rfl, hok⟩ := u16s_of (w := W) n xs hl hp
  exact ⟨a, n, c, Z, rfl, hZ, hn, hc, hr, hok⟩
theorem flow_cellsR (f t n : Int) : Cells 3 #[.int .u8 f, .int .u8 t, .int .i64 n] := flow_cells f t n
theorem flow_spliceR (a b c f t n : Int) : splice (flow a b c) 0 #[.int .u8 f, .int .u8 t, .int .i64 n] = flow f t n := flow_splice a b c f t n
theorem rgX_val {n k : Nat} {V : Nat → Int} {v : Int} (hv : V k = v) (b : Int) (hb : b = if k + 1 = n then 1 else (k : Int) + 2) : (flow ((k : Int) + 1) b v).toList = flwL [rgX n k (V k)] := by
  subst hb hv
  simp [flow, flwL, flwV, rgX]
  split <;> simp
theorem ring_facts {n : Nat} {V : Nat → Int} (h3 : 3 ≤ n) (h16 : n ≤ 16) (hV : ∀ i, i < n → 1 ≤ V i ∧ V i ≤ 65536) : ∃ N, RdTr (rgL n V n) 1 N ∧ LeastOut 13 (rgL n V n) 1 (leftL (rgL n V n) N) 1 0 ∧ sumF (leftL (rgL n V n) N) = sumF (rgL n V n) - lsV V n * (n : Int) ∧ 1 ≤ lsV V n ∧ lsV V n ≤ 65536 := by
  have hM := rgL_may h3 h16 (Nat.le_refl n) hV
  obtain ⟨N, ht, hN, hr⟩ := ring_once h3 h16 hV
  have I := (ht.inv hM).1
  have h1 : 1 ≤ lsV V n := by
    rcases lsV_is V n with e | ⟨i, hi, e⟩
    · rw [e]; omega
    · rw [e]; exact (hV i hi).1
  have h2 : lsV V n ≤ 65536 := by
    have a1 := (lsV_le V n).2 0 (by omega)
    have a2 := hV 0 (by omega)
    omega
  refine ⟨N, ht, .inr ⟨hM, by omega, 1, N, ht, by omega, .inl ⟨hr, rfl, rfl, rfl⟩⟩, ?_, h1, h2⟩
  have e1 : sumF (leftL (rgL n V n) N) = N.sum := leftL_sum I
  rw [e1, hN, sum_sub, List.length_map, rgL_len]
  rfl
def vR (Z : List Int) (i : Nat) : Int := Z.getD i 0 + 1
def mR (cl : Bool) (n k : Nat) : Nat := if cl then k else min k (n - 1)
structure RgR (W : World) (l : List Thing) (V : Nat → Int) (cl : Bool) (n : Nat) (v s i : Value) (wr : World) : Prop where
  out : ∃ k : Nat, k ≤ n ∧ i = .int .i64 (k : Int) ∧ s = .int .i64 (lsV V (mR cl n k)) ∧ Heap W (RowT 39 3 v (mR cl n k) (flwL (rgL n V (mR cl n k))) :: l) wr
section
variable {W w : World} {l : List Thing}
set_option maxHeartbeats 8000000
attribute [local go_sem high] run_min2
theorem rring_H (a : Option Addr) (n c : Nat) (Z : List Int) (cl : Bool) (hl : Z.length = n) (h63 : n ≤ 9223372036854775807) (hZ : ∀ z ∈ Z, 0 ≤ z ∧ z ≤ 65535) (R : ∀ l' w', Heap W l' w' → Rd w' a (Z.map (Value.int .u16))) (H : Heap W l w) :
    Calls Try.prog 6 #[.slice a n c, .bool cl] w fun e w' => e = .returned (.bool true) ∧ Heap W [] w' := by
  have LV := fun l' w' (H : Heap W l' w') => lives08_H H
  go_enter Try.func6, Try.ntmps6
  by_cases h3 : n < 3
  · have d1 : decide ((n : Int) < 3) = true := decide_eq_true (by omega)
    go_wp2_with (first | go_skip | (refine (LV _ _ H).mono ?_; clear H; rintro _ _ ⟨rfl, H⟩))
    go_ret
    exact ⟨rfl, H.nothing⟩
  · have d1 : decide ((n : Int) < 3) = false := decide_eq_false (by omega)
    by_cases h16 : 16 < n
    · have d2 : decide ((n : Int) > 16) = true := decide_eq_true (by omega)
      go_wp2_with (first | go_skip | (refine (LV _ _ H).mono ?_; clear H; rintro _ _ ⟨rfl, H⟩))
      go_ret
      exact ⟨rfl, H.nothing⟩
    · have d2 : decide ((n : Int) > 16) = false := decide_eq_false (by omega)
      have HL := Lib.hid hl
      have HR := Lib.hid R
      have HZ := Lib.hid hZ
      have hVi : ∀ i, i < n → 1 ≤ vR Z i ∧ vR Z i ≤ 65536 := fun i hi => by
        have hz : Z[i]? = some (Z[i]'(by rw [hl]; exact hi)) := List.getElem?_eq_getElem _
        have := hZ _ (List.mem_of_getElem? hz)
        unfold vR
        rw [List.getD_eq_getElem?_getD, hz]
        simp only [Option.getD_some]
        omega
      have HV := Lib.hid hVi
      clear hl R hZ hVi
      go_wp2_with (go_skip)
      have H0 := H.nilRow 39 3
      clear H
      go_loopw [5, 6, 7] (fun v s i wr => RgR W l (vR Z) cl n v s i wr) (fun _ _ i _ => n - (intOf i).toNat)
      case atStart => exact ⟨0, Nat.zero_le _, rfl, by cases cl <;> simp [mR, lsV], by cases cl <;> simpa [mR, rgL, flwL] using H0⟩
      case round =>
        obtain ⟨k, hk, rfl, rfl, H⟩ := hrel.out
        clear H0 hrel
        by_cases hlt : k < n
        · have hz : Z[k]? = some (Z[k]'(by rw [HL.out]; exact hlt)) := List.getElem?_eq_getElem _
          have hv := HV.out k hlt
          have hvz : vR Z k = Z[k]'(by rw [HL.out]; exact hlt) + 1 := by unfold vR; rw [List.getD_eq_getElem?_getD, hz]; rfl
          generalize Z[k]'(by rw [HL.out]; exact hlt) = z at *
          obtain ⟨eb, eo, rfl, _⟩ := (HR.out _ _ H).lt (by rw [List.length_map, HL.out]; omega)
          have hc : wr.cell? ⟨eb, eo + k, none⟩ = some (.int .u16 z) := by
            rw [(HR.out _ _ H).get (i := k) (by rw [List.length_map, HL.out]; exact hlt)]
            have := (List.getElem?_eq_some_iff.1 hz).2
            simp [this]
          have HVZ := Lib.hid (show vR Z k = z + 1 from hvz)
          have hn1 : mR cl n k + 1 ≤ maxLen := by unfold mR maxLen; split <;> omega
          have hn2 : (mR cl n k + 1) * 16 ≤ 140737488355328 := by unfold mR; split <;> omega
          have hz1 : 0 ≤ z := by omega
          have hz2 : z ≤ 65535 := by omega
          clear hz hv hvz
          by_cases hla : k + 1 = n
          · have e1 : ((k : Int) == (n : Int) - 1) = true := by simp; omega
            cases cl
            · -- the last, open: it is left out
              go_wp2_with (first
                | go_skip
                | ((with_reducible show wpList _ _ _ (_ :: _) _ _); (with_reducible apply wpl_loadCell cell_u16r); (· rfl); (· rfl); (· exact hc); (simp only [Act.put, List.setIfInBounds_toArray, List.set_cons_zero, List.set_cons_succ]))
                | ((with_reducible show wpList _ _ _ (_ :: _) _ _); (with_reducible apply wpl_allocRH row_flow); (· rfl); (· exact H); (clear H; intro px _ H); (simp only [Act.put, List.setIfInBounds_toArray, List.set_cons_zero, List.set_cons_succ]))
                | ((with_reducible show wpList _ _ _ (_ :: _) _ _); (with_reducible apply wpl_storeRH row_flow); (· rfl); (· rfl); (· rfl); (· with_reducible exact flow_cellsR ..); (· exact H); (· (repeat (first | (with_reducible exact List.mem_cons_self) | with_reducible apply List.mem_cons_of_mem))); (· (simp only [flow_sz, Nat.reduceAdd, Nat.reduceLeDiff, Nat.le_refl]; done)); (· with_reducible exact flow_spliceR ..); (· (repeat (first | (with_reducible exact Repl.here) | with_reducible apply Repl.there))); (clear H; intro _ H); (simp only [Act.put, List.setIfInBounds_toArray, List.set_cons_zero, List.set_cons_succ]))
                | (first | ((with_reducible show wpList _ _ _ (_ :: _) _ _); (with_reducible apply wpl_storeIH); (· exact cell_party); (· rfl); (· rfl); (· rfl); (· exact H); (· (repeat (first | (with_reducible exact List.mem_cons_self) | with_reducible apply List.mem_cons_of_mem))); (· (simp only [flow_sz, Nat.reduceLT]; done)); (· (with_reducible first | exact flow_s0 .. | exact flow_s1 .. | exact flow_s2 ..)); (· (repeat (first | (with_reducible exact Repl.here) | with_reducible apply Repl.there))); (clear H; intro _ H); (simp only [Act.put, List.setIfInBounds_toArray, List.set_cons_zero, List.set_cons_succ])) | ((with_reducible show wpList _ _ _ (_ :: _) _ _); (with_reducible apply wpl_storeBH); (· exact cell_party); (· rfl); (· rfl); (· rfl); (· exact H); (· (repeat (first | (with_reducible exact List.mem_cons_self) | with_reducible apply List.mem_cons_of_mem))); (· (simp only [flow_sz, Nat.reduceLT]; done)); (· (with_reducible first | exact flow_s0 .. | exact flow_s1 .. | exact flow_s2 ..)); (· (repeat (first | (with_reducible exact Repl.here) | with_reducible apply Repl.there))); (clear H; intro _ H); (simp only [Act.put, List.setIfInBounds_toArray, List.set_cons_zero, List.set_cons_succ])) | ((with_reducible show wpList _ _ _ (_ :: _) _ _); (with_reducible apply wpl_storeSH); (· exact cell_party); (· rfl); (· rfl); (· rfl); (· exact H); (· (repeat (first | (with_reducible exact List.mem_cons_self) | with_reducible apply List.mem_cons_of_mem))); (· (simp only [flow_sz, Nat.reduceLT]; done)); (· (with_reducible first | exact flow_s0 .. | exact flow_s1 .. | exact flow_s2 ..)); (· (repeat (first | (with_reducible exact Repl.here) | with_reducible apply Repl.there))); (clear H; intro _ H); (simp only [Act.put, List.setIfInBounds_toArray, List.set_cons_zero, List.set_cons_succ])) | ((with_reducible show wpList _ _ _ (_ :: _) _ _); (with_reducible apply wpl_storePH); (· exact cell_party); (· rfl); (· rfl); (· rfl); (· exact H); (· (repeat (first | (with_reducible exact List.mem_cons_self) | with_reducible apply List.mem_cons_of_mem))); (· (simp only [flow_sz, Nat.reduceLT]; done)); (· (with_reducible first | exact flow_s0 .. | exact flow_s1 .. | exact flow_s2 ..)); (· (repeat (first | (with_reducible exact Repl.here) | with_reducible apply Repl.there))); (clear H; intro _ H); (simp only [Act.put, List.setIfInBounds_toArray, List.set_cons_zero, List.set_cons_succ])))
                | ((with_reducible show wpList _ _ _ (_ :: _) _ _); (with_reducible apply wpl_loadCH); (· first | exact cell_party | exact cell_i64); (· rfl); (· rfl); (· exact H); (· (repeat (first | (with_reducible exact List.mem_cons_self) | with_reducible apply List.mem_cons_of_mem))); (· (with_reducible first | exact flow_g0 .. | exact flow_g1 .. | exact flow_g2 ..)); (simp only [Act.put, List.setIfInBounds_toArray, List.set_cons_zero, List.set_cons_succ]))
                | ((with_reducible show wpList _ _ _ (_ :: _) _ _); (with_reducible apply wpl_loadRH row_flow); (· rfl); (· rfl); (· exact H); (· (repeat (first | (with_reducible exact List.mem_cons_self) | with_reducible apply List.mem_cons_of_mem))); (· (simp only [flow_sz, Nat.reduceAdd, Nat.reduceLeDiff, Nat.le_refl]; done)); (· with_reducible exact flow_all ..); (simp only [Act.put, List.setIfInBounds_toArray, List.set_cons_zero, List.set_cons_succ]))
                | ((with_reducible show wpList _ _ _ (_ :: _) _ _); (with_reducible apply wpl_bsRH); (· rfl); (· rfl); (· exact bs_flow); (· exact rfl); (· exact H); (clear H; intro pf _ H); (simp only [Act.put, List.setIfInBounds_toArray, List.set_cons_zero, List.set_cons_succ]))
                | ((with_reducible show wpList _ _ _ (_ :: _) _ _); (with_reducible apply wpl_appendH slF); (· rfl); (· rfl); (· rfl); (· rfl); (· exact H.pull (.there (.there .here))); (· exact H.celRd List.mem_cons_self); (· rfl); (· exact flowC_one _ _ _); (· exact hn1); (· exact hn2); (clear H; intro v2 _ H); (simp only [Act.put, List.setIfInBounds_toArray, List.set_cons_zero, List.set_cons_succ])))
              have hm : mR false n (k + 1) = mR false n k := by unfold mR; simp; omega
              refine ⟨⟨k + 1, by omega, by go_num, by rw [hm], by rw [hm]; exact H.tail⟩, ?measure0⟩
              case measure0 => simp [intOf]; omega
            · -- the last, closed
              go_wp2_with (first
                | go_skip
                | ((with_reducible show wpList _ _ _ (_ :: _) _ _); (with_reducible apply wpl_loadCell cell_u16r); (· rfl); (· rfl); (· exact hc); (simp only [Act.put, List.setIfInBounds_toArray, List.set_cons_zero, List.set_cons_succ]))
                | ((with_reducible show wpList _ _ _ (_ :: _) _ _); (with_reducible apply wpl_allocRH row_flow); (· rfl); (· exact H); (clear H; intro px _ H); (simp only [Act.put, List.setIfInBounds_toArray, List.set_cons_zero, List.set_cons_succ]))
                | ((with_reducible show wpList _ _ _ (_ :: _) _ _); (with_reducible apply wpl_storeRH row_flow); (· rfl); (· rfl); (· rfl); (· with_reducible exact flow_cellsR ..); (· exact H); (· (repeat (first | (with_reducible exact List.mem_cons_self) | with_reducible apply List.mem_cons_of_mem))); (· (simp only [flow_sz, Nat.reduceAdd, Nat.reduceLeDiff, Nat.le_refl]; done)); (· with_reducible exact flow_spliceR ..); (· (repeat (first | (with_reducible exact Repl.here) | with_reducible apply Repl.there))); (clear H; intro _ H); (simp only [Act.put, List.setIfInBounds_toArray, List.set_cons_zero, List.set_cons_succ]))
                | (first | ((with_reducible show wpList _ _ _ (_ :: _) _ _); (with_reducible apply wpl_storeIH); (· exact cell_party); (· rfl); (· rfl); (· rfl); (· exact H); (· (repeat (first | (with_reducible exact List.mem_cons_self) | with_reducible apply List.mem_cons_of_mem))); (· (simp only [flow_sz, Nat.reduceLT]; done)); (· (with_reducible first | exact flow_s0 .. | exact flow_s1 .. | exact flow_s2 ..)); (· (repeat (first | (with_reducible exact Repl.here) | with_reducible apply Repl.there))); (clear H; intro _ H); (simp only [Act.put, List.setIfInBounds_toArray, List.set_cons_zero, List.set_cons_succ])) | ((with_reducible show wpList _ _ _ (_ :: _) _ _); (with_reducible apply wpl_storeBH); (· exact cell_party); (· rfl); (· rfl); (· rfl); (· exact H); (· (repeat (first | (with_reducible exact List.mem_cons_self) | with_reducible apply List.mem_cons_of_mem))); (· (simp only [flow_sz, Nat.reduceLT]; done)); (· (with_reducible first | exact flow_s0 .. | exact flow_s1 .. | exact flow_s2 ..)); (· (repeat (first | (with_reducible exact Repl.here) | with_reducible apply Repl.there))); (clear H; intro _ H); (simp only [Act.put, List.setIfInBounds_toArray, List.set_cons_zero, List.set_cons_succ])) | ((with_reducible show wpList _ _ _ (_ :: _) _ _); (with_reducible apply wpl_storeSH); (· exact cell_party); (· rfl); (· rfl); (· rfl); (· exact H); (· (repeat (first | (with_reducible exact List.mem_cons_self) | with_reducible apply List.mem_cons_of_mem))); (· (simp only [flow_sz, Nat.reduceLT]; done)); (· (with_reducible first | exact flow_s0 .. | exact flow_s1 .. | exact flow_s2 ..)); (· (repeat (first | (with_reducible exact Repl.here) | with_reducible apply Repl.there))); (clear H; intro _ H); (simp only [Act.put, List.setIfInBounds_toArray, List.set_cons_zero, List.set_cons_succ])) | ((with_reducible show wpList _ _ _ (_ :: _) _ _); (with_reducible apply wpl_storePH); (· exact cell_party); (· rfl); (· rfl); (· rfl); (· exact H); (· (repeat (first | (with_reducible exact List.mem_cons_self) | with_reducible apply List.mem_cons_of_mem))); (· (simp only [flow_sz, Nat.reduceLT]; done)); (· (with_reducible first | exact flow_s0 .. | exact flow_s1 .. | exact flow_s2 ..)); (· (repeat (first | (with_reducible exact Repl.here) | with_reducible apply Repl.there))); (clear H; intro _ H); (simp only [Act.put, List.setIfInBounds_toArray, List.set_cons_zero, List.set_cons_succ])))
                | ((with_reducible show wpList _ _ _ (_ :: _) _ _); (with_reducible apply wpl_loadCH); (· first | exact cell_party | exact cell_i64); (· rfl); (· rfl); (· exact H); (· (repeat (first | (with_reducible exact List.mem_cons_self) | with_reducible apply List.mem_cons_of_mem))); (· (with_reducible first | exact flow_g0 .. | exact flow_g1 .. | exact flow_g2 ..)); (simp only [Act.put, List.setIfInBounds_toArray, List.set_cons_zero, List.set_cons_succ]))
                | ((with_reducible show wpList _ _ _ (_ :: _) _ _); (with_reducible apply wpl_loadRH row_flow); (· rfl); (· rfl); (· exact H); (· (repeat (first | (with_reducible exact List.mem_cons_self) | with_reducible apply List.mem_cons_of_mem))); (· (simp only [flow_sz, Nat.reduceAdd, Nat.reduceLeDiff, Nat.le_refl]; done)); (· with_reducible exact flow_all ..); (simp only [Act.put, List.setIfInBounds_toArray, List.set_cons_zero, List.set_cons_succ]))
                | ((with_reducible show wpList _ _ _ (_ :: _) _ _); (with_reducible apply wpl_bsRH); (· rfl); (· rfl); (· exact bs_flow); (· exact rfl); (· exact H); (clear H; intro pf _ H); (simp only [Act.put, List.setIfInBounds_toArray, List.set_cons_zero, List.set_cons_succ]))
                | ((with_reducible show wpList _ _ _ (_ :: _) _ _); (with_reducible apply wpl_appendH slF); (· rfl); (· rfl); (· rfl); (· rfl); (· exact H.pull (.there (.there .here))); (· exact H.celRd List.mem_cons_self); (· rfl); (· exact flowC_one _ _ _); (· exact hn1); (· exact hn2); (clear H; intro v2 _ H); (simp only [Act.put, List.setIfInBounds_toArray, List.set_cons_zero, List.set_cons_succ])))
              have hm1 : mR true n k = k := by unfold mR; simp
              have hm2 : mR true n (k + 1) = k + 1 := by unfold mR; simp
              rw [hm1] at H ⊢
              refine ⟨⟨k + 1, by omega, by go_num, by rw [hm2, lsV, HVZ.out], ?_⟩, ?measure1⟩
              case measure1 => simp [intOf]; omega
              rw [hm2, rgL_next, flwL_app, ← rgX_val HVZ.out 1 (by rw [if_pos hla])]
              exact H.sub (.cons_cons _ (.cons _ (.cons _ (.refl _))))
          · have e1 : ((k : Int) == (n : Int) - 1) = false := by simp; omega
            cases cl
            · go_wp2_with (first
                | go_skip
                | ((with_reducible show wpList _ _ _ (_ :: _) _ _); (with_reducible apply wpl_loadCell cell_u16r); (· rfl); (· rfl); (· exact hc); (simp only [Act.put, List.setIfInBounds_toArray, List.set_cons_zero, List.set_cons_succ]))
                | ((with_reducible show wpList _ _ _ (_ :: _) _ _); (with_reducible apply wpl_allocRH row_flow); (· rfl); (· exact H); (clear H; intro px _ H); (simp only [Act.put, List.setIfInBounds_toArray, List.set_cons_zero, List.set_cons_succ]))
                | ((with_reducible show wpList _ _ _ (_ :: _) _ _); (with_reducible apply wpl_storeRH row_flow); (· rfl); (· rfl); (· rfl); (· with_reducible exact flow_cellsR ..); (· exact H); (· (repeat (first | (with_reducible exact List.mem_cons_self) | with_reducible apply List.mem_cons_of_mem))); (· (simp only [flow_sz, Nat.reduceAdd, Nat.reduceLeDiff, Nat.le_refl]; done)); (· with_reducible exact flow_spliceR ..); (· (repeat (first | (with_reducible exact Repl.here) | with_reducible apply Repl.there))); (clear H; intro _ H); (simp only [Act.put, List.setIfInBounds_toArray, List.set_cons_zero, List.set_cons_succ]))
                | (first | ((with_reducible show wpList _ _ _ (_ :: _) _ _); (with_reducible apply wpl_storeIH); (· exact cell_party); (· rfl); (· rfl); (· rfl); (· exact H); (· (repeat (first | (with_reducible exact List.mem_cons_self) | with_reducible apply List.mem_cons_of_mem))); (· (simp only [flow_sz, Nat.reduceLT]; done)); (· (with_reducible first | exact flow_s0 .. | exact flow_s1 .. | exact flow_s2 ..)); (· (repeat (first | (with_reducible exact Repl.here) | with_reducible apply Repl.there))); (clear H; intro _ H); (simp only [Act.put, List.setIfInBounds_toArray, List.set_cons_zero, List.set_cons_succ])) | ((with_reducible show wpList _ _ _ (_ :: _) _ _); (with_reducible apply wpl_storeBH); (· exact cell_party); (· rfl); (· rfl); (· rfl); (· exact H); (· (repeat (first | (with_reducible exact List.mem_cons_self) | with_reducible apply List.mem_cons_of_mem))); (· (simp only [flow_sz, Nat.reduceLT]; done)); (· (with_reducible first | exact flow_s0 .. | exact flow_s1 .. | exact flow_s2 ..)); (· (repeat (first | (with_reducible exact Repl.here) | with_reducible apply Repl.there))); (clear H; intro _ H); (simp only [Act.put, List.setIfInBounds_toArray, List.set_cons_zero, List.set_cons_succ])) | ((with_reducible show wpList _ _ _ (_ :: _) _ _); (with_reducible apply wpl_storeSH); (· exact cell_party); (· rfl); (· rfl); (· rfl); (· exact H); (· (repeat (first | (with_reducible exact List.mem_cons_self) | with_reducible apply List.mem_cons_of_mem))); (· (simp only [flow_sz, Nat.reduceLT]; done)); (· (with_reducible first | exact flow_s0 .. | exact flow_s1 .. | exact flow_s2 ..)); (· (repeat (first | (with_reducible exact Repl.here) | with_reducible apply Repl.there))); (clear H; intro _ H); (simp only [Act.put, List.setIfInBounds_toArray, List.set_cons_zero, List.set_cons_succ])) | ((with_reducible show wpList _ _ _ (_ :: _) _ _); (with_reducible apply wpl_storePH); (· exact cell_party); (· rfl); (· rfl); (· rfl); (· exact H); (· (repeat (first | (with_reducible exact List.mem_cons_self) | with_reducible apply List.mem_cons_of_mem))); (· (simp only [flow_sz, Nat.reduceLT]; done)); (· (with_reducible first | exact flow_s0 .. | exact flow_s1 .. | exact flow_s2 ..)); (· (repeat (first | (with_reducible exact Repl.here) | with_reducible apply Repl.there))); (clear H; intro _ H); (simp only [Act.put, List.setIfInBounds_toArray, List.set_cons_zero, List.set_cons_succ])))
                | ((with_reducible show wpList _ _ _ (_ :: _) _ _); (with_reducible apply wpl_loadCH); (· first | exact cell_party | exact cell_i64); (· rfl); (· rfl); (· exact H); (· (repeat (first | (with_reducible exact List.mem_cons_self) | with_reducible apply List.mem_cons_of_mem))); (· (with_reducible first | exact flow_g0 .. | exact flow_g1 .. | exact flow_g2 ..)); (simp only [Act.put, List.setIfInBounds_toArray, List.set_cons_zero, List.set_cons_succ]))
                | ((with_reducible show wpList _ _ _ (_ :: _) _ _); (with_reducible apply wpl_loadRH row_flow); (· rfl); (· rfl); (· exact H); (· (repeat (first | (with_reducible exact List.mem_cons_self) | with_reducible apply List.mem_cons_of_mem))); (· (simp only [flow_sz, Nat.reduceAdd, Nat.reduceLeDiff, Nat.le_refl]; done)); (· with_reducible exact flow_all ..); (simp only [Act.put, List.setIfInBounds_toArray, List.set_cons_zero, List.set_cons_succ]))
                | ((with_reducible show wpList _ _ _ (_ :: _) _ _); (with_reducible apply wpl_bsRH); (· rfl); (· rfl); (· exact bs_flow); (· exact rfl); (· exact H); (clear H; intro pf _ H); (simp only [Act.put, List.setIfInBounds_toArray, List.set_cons_zero, List.set_cons_succ]))
                | ((with_reducible show wpList _ _ _ (_ :: _) _ _); (with_reducible apply wpl_appendH slF); (· rfl); (· rfl); (· rfl); (· rfl); (· exact H.pull (.there (.there .here))); (· exact H.celRd List.mem_cons_self); (· rfl); (· exact flowC_one _ _ _); (· exact hn1); (· exact hn2); (clear H; intro v2 _ H); (simp only [Act.put, List.setIfInBounds_toArray, List.set_cons_zero, List.set_cons_succ])))
              have hm1 : mR false n k = k := by unfold mR; simp; omega
              have hm2 : mR false n (k + 1) = k + 1 := by unfold mR; simp; omega
              rw [hm1] at H ⊢
              refine ⟨⟨k + 1, by omega, by go_num, by rw [hm2, lsV, HVZ.out], ?_⟩, ?measure2⟩
              case measure2 => simp [intOf]; omega
              rw [hm2, rgL_next, flwL_app, ← rgX_val HVZ.out ((k : Int) + 2) (by rw [if_neg hla])]
              exact H.sub (.cons_cons _ (.cons _ (.cons _ (.refl _))))
            · go_wp2_with (first
                | go_skip
                | ((with_reducible show wpList _ _ _ (_ :: _) _ _); (with_reducible apply wpl_loadCell cell_u16r); (· rfl); (· rfl); (· exact hc); (simp only [Act.put, List.setIfInBounds_toArray, List.set_cons_zero, List.set_cons_succ]))
                | ((with_reducible show wpList _ _ _ (_ :: _) _ _); (with_reducible apply wpl_allocRH row_flow); (· rfl); (· exact H); (clear H; intro px _ H); (simp only [Act.put, List.setIfInBounds_toArray, List.set_cons_zero, List.set_cons_succ]))
                | ((with_reducible show wpList _ _ _ (_ :: _) _ _); (with_reducible apply wpl_storeRH row_flow); (· rfl); (· rfl); (· rfl); (· with_reducible exact flow_cellsR ..); (· exact H); (· (repeat (first | (with_reducible exact List.mem_cons_self) | with_reducible apply List.mem_cons_of_mem))); (· (simp only [flow_sz, Nat.reduceAdd, Nat.reduceLeDiff, Nat.le_refl]; done)); (· with_reducible exact flow_spliceR ..); (· (repeat (first | (with_reducible exact Repl.here) | with_reducible apply Repl.there))); (clear H; intro _ H); (simp only [Act.put, List.setIfInBounds_toArray, List.set_cons_zero, List.set_cons_succ]))
                | (first | ((with_reducible show wpList _ _ _ (_ :: _) _ _); (with_reducible apply wpl_storeIH); (· exact cell_party); (· rfl); (· rfl); (· rfl); (· exact H); (· (repeat (first | (with_reducible exact List.mem_cons_self) | with_reducible apply List.mem_cons_of_mem))); (· (simp only [flow_sz, Nat.reduceLT]; done)); (· (with_reducible first | exact flow_s0 .. | exact flow_s1 .. | exact flow_s2 ..)); (· (repeat (first | (with_reducible exact Repl.here) | with_reducible apply Repl.there))); (clear H; intro _ H); (simp only [Act.put, List.setIfInBounds_toArray, List.set_cons_zero, List.set_cons_succ])) | ((with_reducible show wpList _ _ _ (_ :: _) _ _); (with_reducible apply wpl_storeBH); (· exact cell_party); (· rfl); (· rfl); (· rfl); (· exact H); (· (repeat (first | (with_reducible exact List.mem_cons_self) | with_reducible apply List.mem_cons_of_mem))); (· (simp only [flow_sz, Nat.reduceLT]; done)); (· (with_reducible first | exact flow_s0 .. | exact flow_s1 .. | exact flow_s2 ..)); (· (repeat (first | (with_reducible exact Repl.here) | with_reducible apply Repl.there))); (clear H; intro _ H); (simp only [Act.put, List.setIfInBounds_toArray, List.set_cons_zero, List.set_cons_succ])) | ((with_reducible show wpList _ _ _ (_ :: _) _ _); (with_reducible apply wpl_storeSH); (· exact cell_party); (· rfl); (· rfl); (· rfl); (· exact H); (· (repeat (first | (with_reducible exact List.mem_cons_self) | with_reducible apply List.mem_cons_of_mem))); (· (simp only [flow_sz, Nat.reduceLT]; done)); (· (with_reducible first | exact flow_s0 .. | exact flow_s1 .. | exact flow_s2 ..)); (· (repeat (first | (with_reducible exact Repl.here) | with_reducible apply Repl.there))); (clear H; intro _ H); (simp only [Act.put, List.setIfInBounds_toArray, List.set_cons_zero, List.set_cons_succ])) | ((with_reducible show wpList _ _ _ (_ :: _) _ _); (with_reducible apply wpl_storePH); (· exact cell_party); (· rfl); (· rfl); (· rfl); (· exact H); (· (repeat (first | (with_reducible exact List.mem_cons_self) | with_reducible apply List.mem_cons_of_mem))); (· (simp only [flow_sz, Nat.reduceLT]; done)); (· (with_reducible first | exact flow_s0 .. | exact flow_s1 .. | exact flow_s2 ..)); (· (repeat (first | (with_reducible exact Repl.here) | with_reducible apply Repl.there))); (clear H; intro _ H); (simp only [Act.put, List.setIfInBounds_toArray, List.set_cons_zero, List.set_cons_succ])))
                | ((with_reducible show wpList _ _ _ (_ :: _) _ _); (with_reducible apply wpl_loadCH); (· first | exact cell_party | exact cell_i64); (· rfl); (· rfl); (· exact H); (· (repeat (first | (with_reducible exact List.mem_cons_self) | with_reducible apply List.mem_cons_of_mem))); (· (with_reducible first | exact flow_g0 .. | exact flow_g1 .. | exact flow_g2 ..)); (simp only [Act.put, List.setIfInBounds_toArray, List.set_cons_zero, List.set_cons_succ]))
                | ((with_reducible show wpList _ _ _ (_ :: _) _ _); (with_reducible apply wpl_loadRH row_flow); (· rfl); (· rfl); (· exact H); (· (repeat (first | (with_reducible exact List.mem_cons_self) | with_reducible apply List.mem_cons_of_mem))); (· (simp only [flow_sz, Nat.reduceAdd, Nat.reduceLeDiff, Nat.le_refl]; done)); (· with_reducible exact flow_all ..); (simp only [Act.put, List.setIfInBounds_toArray, List.set_cons_zero, List.set_cons_succ]))
                | ((with_reducible show wpList _ _ _ (_ :: _) _ _); (with_reducible apply wpl_bsRH); (· rfl); (· rfl); (· exact bs_flow); (· exact rfl); (· exact H); (clear H; intro pf _ H); (simp only [Act.put, List.setIfInBounds_toArray, List.set_cons_zero, List.set_cons_succ]))
                | ((with_reducible show wpList _ _ _ (_ :: _) _ _); (with_reducible apply wpl_appendH slF); (· rfl); (· rfl); (· rfl); (· rfl); (· exact H.pull (.there (.there .here))); (· exact H.celRd List.mem_cons_self); (· rfl); (· exact flowC_one _ _ _); (· exact hn1); (· exact hn2); (clear H; intro v2 _ H); (simp only [Act.put, List.setIfInBounds_toArray, List.set_cons_zero, List.set_cons_succ])))
              have hm1 : mR true n k = k := by unfold mR; simp
              have hm2 : mR true n (k + 1) = k + 1 := by unfold mR; simp
              rw [hm1] at H ⊢
              refine ⟨⟨k + 1, by omega, by go_num, by rw [hm2, lsV, HVZ.out], ?_⟩, ?measure3⟩
              case measure3 => simp [intOf]; omega
              rw [hm2, rgL_next, flwL_app, ← rgX_val HVZ.out ((k : Int) + 2) (by rw [if_neg hla])]
              exact H.sub (.cons_cons _ (.cons _ (.cons _ (.refl _))))
        · obtain rfl : n = k := by omega
          rename_i v0 _ _
          cases cl
          · have hm1 : mR false n n = n - 1 := by unfold mR; simp
            rw [hm1] at H ⊢
            have hM := rgL_may (V := vR Z) (n := n) (k := n - 1) (by omega) (by omega) (by omega) (fun i hi => HV.out i (by omega))
            have o1 : LeastOut 13 (rgL n (vR Z) (n - 1)) 1 (rgL n (vR Z) (n - 1)) 0 0 := .inr ⟨hM, by omega, 0, _, .nil, by omega, .inl ⟨chain_done (by omega) (by omega) (fun i hi => HV.out i (by omega)), (leftL_all hM.pos).symm, rfl, rfl⟩⟩
            have HO := Lib.hid o1
            have OK : ∀ x ∈ rgL n (vR Z) (n - 1), FlwOk x := fun x hx => by have := hM.many x hx; exact ⟨by omega, by omega, by omega, by omega⟩
            have hFl := rgL_len n (vR Z) (n - 1)
            have HFl := Lib.hid hFl
            generalize rgL n (vR Z) (n - 1) = F at *
            obtain ⟨va, vc, rfl, _, _⟩ := RowT.form0 (H.ok _ List.mem_cons_self)
            have HOK := Lib.hid OK
            clear hm1 hM o1 OK hFl
            go_wp2_with (go_skip)
            refine (least8_S va (n - 1) vc F 1 HFl.out (by omega) HOK.out (by omega) (fun l' w' hh H' => H'.rowRd (hh _ List.mem_cons_self)) H).mono ?_
            clear H
            rintro _ _ ⟨b1, m1, d1, L, q, er, rfl, rfl, hd1, hx1, ho, H⟩
            obtain ⟨rfl, rfl, rfl⟩ := HO.out.det ho
            clear ho
            have S1 := sameFlows_P (W := W) (l := OwnT 39 3 (.slice b1 F.length d1) F.length (flwL F) :: RowT 39 3 (.slice va (n - 1) vc) (n - 1) (flwL F) :: l) (A := F) (B := F) b1 va F.length (n - 1) d1 vc rfl HFl.out (by rw [HFl.out]; omega) (by omega) (fun w' h => h.ownRd List.mem_cons_self) (fun w' h => h.rowRd (List.mem_cons_of_mem _ List.mem_cons_self))
            rw [decide_eq_true rfl] at S1
            go_wp2_with (first | go_skip | ((with_reducible refine AnsH.call (by assumption) H ?_); clear H; intro _ H) | (refine (LV _ _ H).mono ?_; clear H; rintro _ _ ⟨rfl, H⟩))
            go_ret
            exact ⟨rfl, H.nothing⟩
          · have hm1 : mR true n n = n := by unfold mR; simp
            rw [hm1] at H ⊢
            have hM := rgL_may (V := vR Z) (n := n) (k := n) (by omega) (by omega) (by omega) (fun i hi => HV.out i (by omega))
            obtain ⟨N, ht, o1, hsum, hv1, hv2⟩ := ring_facts (V := vR Z) (n := n) (by omega) (by omega) (fun i hi => HV.out i (by omega))
            have HO := Lib.hid o1
            have hMF := hM.many
            have hI := (ht.inv hM).1
            have hML := (leftL_may hM hI).many
            have hofm := fun y (hy : y ∈ leftL (rgL n (vR Z) n) N) => ofF_was hM hI hy
            have hst := fun p => ht.stand hM p
            have OK : ∀ x ∈ rgL n (vR Z) n, FlwOk x := fun x hx => by have := hM.many x hx; exact ⟨by omega, by omega, by omega, by omega⟩
            have hFl := rgL_len n (vR Z) n
            have hlL := leftL_len (rgL n (vR Z) n) N
            rw [hFl] at hlL
            have HFl := Lib.hid hFl
            have HOK := Lib.hid OK
            have hb := sumF_bnd (rgL n (vR Z) n) fun x hx => ⟨(hMF x hx).2.2.1, (hMF x hx).2.2.2⟩
            rw [hFl] at hb
            clear hM ht hI o1 OK hFl hm1
            generalize leftL (rgL n (vR Z) n) N = L at *
            generalize rgL n (vR Z) n = F at *
            generalize lsV (vR Z) n = v at *
            obtain ⟨va, vc, rfl, _, _⟩ := RowT.form0 (H.ok _ List.mem_cons_self)
            have hp0 : 0 ≤ v * (n : Int) := Int.mul_nonneg (by omega) (by omega)
            have hp1 : v * (n : Int) ≤ 65536 * 16 := Int.le_trans (Int.mul_le_mul_of_nonneg_right hv2 (by omega)) (by omega)
            obtain ⟨p, hp⟩ : ∃ p, v * (n : Int) = p := ⟨_, rfl⟩
            rw [hp] at hsum hp0 hp1
            have HP := Lib.hid hp
            have HM := Lib.hid (And.intro hMF (And.intro hML (And.intro hofm hst)))
            clear hMF hML hofm hst hp
            go_wp2_with (go_skip)
            refine (least8_S va n vc F 1 HFl.out (by omega) HOK.out (by omega) (fun l' w' hh H' => H'.rowRd (hh _ List.mem_cons_self)) H).mono ?_
            clear H
            rintro _ _ ⟨b1, m1, d1, L1, q, er, rfl, rfl, hd1, hx1, ho, H⟩
            obtain ⟨rfl, rfl, rfl⟩ := HO.out.det ho
            clear ho
            have S1 := sum8_H (W := W) (l := OwnT 39 3 (.slice b1 L.length d1) L.length (flwL L) :: RowT 39 3 (.slice va n vc) n (flwL F) :: l) b1 L.length d1 L rfl (by omega) (fun x hx => ⟨(HM.out.2.1 x hx).2.2.1, (HM.out.2.1 x hx).2.2.2⟩) (fun w' H => H.ownRd List.mem_cons_self)
            have S2 := sum8_H (W := W) (l := OwnT 39 3 (.slice b1 L.length d1) L.length (flwL L) :: RowT 39 3 (.slice va n vc) n (flwL F) :: l) va n vc F HFl.out (by omega) (fun x hx => ⟨(HM.out.1 x hx).2.2.1, (HM.out.1 x hx).2.2.2⟩) (fun w' H => H.rowRd (List.mem_cons_of_mem _ List.mem_cons_self))
            have S3 := fair8_H (W := W) (l := OwnT 39 3 (.slice b1 L.length d1) L.length (flwL L) :: RowT 39 3 (.slice va n vc) n (flwL F) :: l) b1 va L.length n d1 vc L F rfl HFl.out (by omega) (by omega) (fun y hy => ⟨(HM.out.2.2.1 y hy).1, (HM.out.2.2.1 y hy).2.1, (HM.out.2.2.1 y hy).2.2.1, (HM.out.2.1 y hy).2.2.2, (HM.out.2.2.1 y hy).2.2.2⟩) HM.out.1 HM.out.2.2.2 (fun l' w' hh H => H.ownRd (hh _ List.mem_cons_self)) (fun l' w' hh H => H.rowRd (hh _ (List.mem_cons_of_mem _ List.mem_cons_self)))
            generalize sumF L = sL at *
            generalize sumF F = sF at *
            have hmul : v * (n : Int) = p := HP.out
            have eS : (sL == sF - p) = true := by simp; omega
            go_wp2_with (first | go_skip | ((with_reducible refine AnsH.call (by assumption) H ?_); clear H; intro _ H) | (refine (LV _ _ H).mono ?_; clear H; rintro _ _ ⟨rfl, H⟩))
            go_ret
            exact ⟨rfl, H.nothing⟩
end
theorem roundsRing_law (v : Value) (cl : Bool) (W : World) (o : U16sV W v) :
    Calls Try.prog 6 #[v, .bool cl] W fun e w' => e = .returned (.bool true) ∧ Below W.heap.size W w' := by
  obtain ⟨a, n, c, Z, rfl, hZ, hn, hm, hr, hok⟩ := o
  unfold maxLen at hm
  exact (rring_H a n c Z cl hZ (by omega) hok (fun _ w' H => H.rd hr) (Heap.start W)).mono fun e w' ⟨he, hh⟩ => ⟨he, hh.low⟩
end Go.Proofs.Ytbmmdfjabkpoeaa
