/- paths.search: once through all edges. -/
import Derived.Test.YtglehneaphigdaaHops
namespace Go.Proofs.Ytglehneaphigdaa
open Go.RowKit
set_option linter.unusedSimpArgs false
set_option linter.unusedVariables false
/-- An edge with a cost. -/
structure Edg where
  f : Nat
  t : Nat
  c : Int
def edgV (x : Edg) : List Value := [.int .u8 (x.f : Int), .int .u8 (x.t : Int), .int .i8 x.c]
def edgL (F : List Edg) : List Value := F.flatMap edgV
theorem edgL_len (F : List Edg) : (edgL F).length = F.length * 3 := by
  induction F with
  | nil => rfl
  | cons x F ih => simp only [edgL, List.flatMap_cons, List.length_append] at *; rw [ih]; simp [edgV, Nat.add_mul]; omega
theorem edgL_at (F : List Edg) (i : Nat) (h : i < F.length) : ((edgL F).drop (i * 3)).take 3 = edgV F[i] := by
  induction F generalizing i with
  | nil => simp at h
  | cons x F ih =>
    rcases i with _ | i
    · simp [edgL, edgV]
    · have : (i + 1) * 3 = 3 + i * 3 := by omega
      rw [this, ← List.drop_drop]
      simp only [List.length_cons] at h
      have := ih i (by omega)
      simpa [edgL, edgV] using this
theorem edgL_app (F G : List Edg) : edgL (F ++ G) = edgL F ++ edgL G := by simp [edgL]
/-- Such as can be. -/
def EdgOk (x : Edg) : Prop := x.f ≤ 255 ∧ x.t ≤ 255 ∧ -128 ≤ x.c ∧ x.c ≤ 127
def edg (f : Int) (t : Int) (c : Int) : Array Value := #[.int .u8 f, .int .u8 t, .int .i8 c]
section
variable (f : Int) (t : Int) (c : Int)
theorem edg_sz : (edg f t c).size = 3 := rfl
theorem edg_g0 : (edg f t c)[0]? = some (.int .u8 f) := rfl
theorem edg_s0 (v : Int) : (edg f t c).setIfInBounds 0 (.int .u8 v) = edg v t c := rfl
theorem edg_g1 : (edg f t c)[1]? = some (.int .u8 t) := rfl
theorem edg_s1 (v : Int) : (edg f t c).setIfInBounds 1 (.int .u8 v) = edg f v c := rfl
theorem edg_g2 : (edg f t c)[2]? = some (.int .i8 c) := rfl
theorem edg_s2 (v : Int) : (edg f t c).setIfInBounds 2 (.int .i8 v) = edg f t v := rfl
end
theorem edg_all (f t c : Int) : (edg f t c).extract 0 (0 + 3) = edg f t c := by simp [edg]
theorem edg_cells (f t c : Int) : Cells 3 (edg f t c) := ⟨rfl, by simp [edg, Value.oneCell']⟩
theorem edg_splice (a b d f t c : Int) : splice (edg a b d) 0 (edg f t c) = edg f t c := splice_all rfl
theorem row_edg : RowTy 64 3 (edg 0 0 0) := ⟨⟨_, Try.underlying64, rfl⟩, by kernel_rfl, by kernel_rfl⟩
theorem cell_i8 : CellTy 62 := ⟨⟨_, Try.underlying62, rfl⟩, by kernel_rfl⟩
/-- A search's cells: distances, and who is ahead. -/
def sr (D : Nat → Int) (P : Nat → Nat) : Array Value := tab 34 fun i => if i < 17 then .int .i64 (D i) else .int .u8 (P (i - 17) : Int)
theorem sr_sz (D : Nat → Int) (P : Nat → Nat) : (sr D P).size = 34 := tab_size ..
theorem sr_getD (D : Nat → Int) (P : Nat → Nat) {i : Nat} (h : i < 17) : (sr D P)[i]? = some (.int .i64 (D i)) := by
  unfold sr
  rw [tab_get _ (by omega), if_pos h]
theorem sr_getP (D : Nat → Int) (P : Nat → Nat) {i : Nat} (h : i < 17) : (sr D P)[17 + i]? = some (.int .u8 (P i : Int)) := by
  unfold sr
  rw [tab_get _ (by omega), if_neg (by omega), Nat.add_sub_cancel_left]
theorem sr_setD (D : Nat → Int) (P : Nat → Nat) {i : Nat} (h : i < 17) (v : Int) : (sr D P).setIfInBounds i (.int .i64 v) = sr (updN D i v) P := by
  unfold sr
  rw [tab_set _ _ (by omega)]
  apply tab_congr
  intro j hj
  unfold updN
  by_cases e : j = i
  · subst e; rw [if_pos rfl, if_pos h, if_pos rfl]
  · rw [if_neg e]
    by_cases e2 : j < 17
    · rw [if_pos e2, if_pos e2, if_neg e]
    · rw [if_neg e2, if_neg e2]
theorem sr_setP (D : Nat → Int) (P : Nat → Nat) {i : Nat} (h : i < 17) (v : Nat) : (sr D P).setIfInBounds (17 + i) (.int .u8 (v : Int)) = sr D (updN P i v) := by
  unfold sr
  rw [tab_set _ _ (by omega)]
  apply tab_congr
  intro j hj
  unfold updN
  by_cases e : j = 17 + i
  · subst e; rw [if_pos rfl, if_neg (by omega), if_pos (by omega)]
  · rw [if_neg e]
    by_cases e2 : j < 17
    · rw [if_pos e2, if_pos e2]
    · rw [if_neg e2, if_neg e2, if_neg (by omega)]
/-- What is known amid a search. -/
structure Srch where
  D : Nat → Int
  P : Nat → Nat
  last : Nat
def relax (s : Srch) (e : Edg) : Srch := if s.D e.f + e.c < s.D e.t then ⟨updN s.D e.t (s.D e.f + e.c), updN s.P e.t e.f, e.t⟩ else s
def onceS (F : List Edg) (s : Srch) : Srch := F.foldl relax ⟨s.D, s.P, 0⟩
theorem relax_yes {s : Srch} {e : Edg} (h : s.D e.f + e.c < s.D e.t) : relax s e = ⟨updN s.D e.t (s.D e.f + e.c), updN s.P e.t e.f, e.t⟩ := if_pos h
theorem relax_no {s : Srch} {e : Edg} (h : ¬ s.D e.f + e.c < s.D e.t) : relax s e = s := if_neg h
/-- Distances within a bound. -/
def Bnd (B : Nat) (s : Srch) : Prop := ∀ i, -(B : Int) ≤ s.D i ∧ s.D i ≤ 0
theorem Bnd.relax {B : Nat} {s : Srch} {e : Edg} (h : Bnd B s) (hc : -128 ≤ e.c) : Bnd (B + 128) (relax s e) := by
  intro i
  unfold Proofs.Ytglehneaphigdaa.relax
  have hi := h i
  have hf := h e.f
  have ht := h e.t
  split
  · simp only [updN]
    split
    · omega
    · omega
  · omega
def OnceLoop (W : World) (l : List Thing) (p : Nat) (F : List Edg) (s0 : Srch) (B en : Nat) (v i : Value) (wr : World) : Prop :=
  ∃ (k : Nat) (s : Srch), k ≤ en ∧ i = .int .i64 k ∧ v = .int .u8 (s.last : Int) ∧ onceS F s0 = (F.drop k).foldl relax s ∧ Bnd (B + 128 * k) s ∧ Heap W (Cel p (sr s.D s.P) 108 :: l) wr
section
variable {W w : World} {l : List Thing}
set_option maxRecDepth 100000
set_option maxHeartbeats 4000000
theorem once_H (p : Nat) (ea : Option Addr) (en ec : Nat) (F : List Edg) (hl : F.length = en) (hF : ∀ x ∈ F, x.f < 17 ∧ x.t < 17 ∧ -128 ≤ x.c ∧ x.c ≤ 127) (R : ∀ w', Heap W l w' → Rd w' ea (edgL F)) (s0 : Srch) (B : Nat) (hB : Bnd B s0) (hBn : B + 128 * en ≤ 1000000000000)
    (H : Heap W (Cel p (sr s0.D s0.P) 108 :: l) w) :
    Calls Try.prog 58 #[.pointer (some ⟨p, 0, none⟩), .slice ea en ec] w fun e w' => e = .returned (.int .u8 ((onceS F s0).last : Int)) ∧ Heap W (Cel p (sr (onceS F s0).D (onceS F s0).P) 108 :: l) w' := by
  have HL := Lib.hid hl
  have HF := Lib.hid hF
  have HR := Lib.hid R
  have HB := Lib.hid hB
  clear hl hF R hB
  go_enter Try.func58, Try.ntmps58
  go_wp2_with (go_skip)
  have H0 := H
  clear H
  go_loopw [5, 11] (fun v i wr => OnceLoop W l p F s0 B en v i wr) (fun _ i _ => en - (intOf i).toNat)
  case atStart => exact ⟨0, ⟨s0.D, s0.P, 0⟩, Nat.zero_le _, rfl, rfl, rfl, HB.out, H0⟩
  case round =>
    obtain ⟨k, s, hk, rfl, rfl, hG, hb, H'⟩ := hrel
    clear H0
    have H := H'
    clear H'
    by_cases hlt : k < en
    · have hkF : k < F.length := by rw [HL.out]; exact hlt
      have hok := HF.out F[k] (List.getElem_mem hkF)
      have hat := edgL_at F k hkF
      have hlen : k * 3 + 3 ≤ (edgL F).length := by rw [edgL_len]; omega
      rw [List.drop_eq_getElem_cons hkF, List.foldl_cons] at hG
      generalize F[k] = x at *
      have hb2 := hb.relax (e := x) hok.2.2.1
      obtain ⟨a, b, n⟩ := x
      obtain ⟨h1, h2, h3, h4⟩ := hok
      simp only at h1 h2 h3 h4
      have hrow : (((edgL F).drop (k * 3)).take 3).toArray = edg a b n := by rw [hat]; rfl
      obtain ⟨eb, eo, rfl, _⟩ := (HR.out _ H.tail).lt (by omega)
      have HG := Lib.hid hG
      have HB2 := Lib.hid hb2
      have hba := hb a
      have hbb := hb b
      clear hG hat hkF hb hb2
      have hw1 : wrap64 n = n := IntWalk.wrap64_in _ ⟨by omega, by omega⟩
      have hw2 : wrap64 (s.D a + n) = s.D a + n := IntWalk.wrap64_in _ ⟨by omega, by omega⟩
      go_wp2_with (first
        | go_skip
        | ((with_reducible show wpList _ _ _ (_ :: _) _ _); (with_reducible apply wpl_loadRdR row_edg); (· rfl); (· rfl); (· exact HR.out _ H.tail); (· rfl); (· exact hlen); (· decide); (· exact hrow); (simp only [Act.put, List.setIfInBounds_toArray, List.set_cons_zero, List.set_cons_succ]))
        | ((with_reducible show wpList _ _ _ (_ :: _) _ _); (with_reducible apply wpl_allocRH row_edg); (· rfl); (· exact H); (clear H; intro px _ H); (simp only [Act.put, List.setIfInBounds_toArray, List.set_cons_zero, List.set_cons_succ]))
        | ((with_reducible show wpList _ _ _ (_ :: _) _ _); (with_reducible apply wpl_storeRH row_edg); (· rfl); (· rfl); (· rfl); (· with_reducible exact edg_cells ..); (· exact H); (· (repeat (first | (with_reducible exact List.mem_cons_self) | with_reducible apply List.mem_cons_of_mem))); (· (simp only [edg_sz, Nat.reduceAdd, Nat.reduceLeDiff, Nat.le_refl]; done)); (· with_reducible exact edg_splice ..); (· (repeat (first | (with_reducible exact Repl.here) | with_reducible apply Repl.there))); (clear H; intro _ H); (simp only [Act.put, List.setIfInBounds_toArray, List.set_cons_zero, List.set_cons_succ])))
      refine wp_region_H H (by kernel_rfl) (by kernel_rfl) ?_
      repeat (first | go_big_quiet_skip | ((with_reducible apply wpQ_loadCH); (· first | exact cell_party | exact cell_i8); (· rfl); (· rfl); (· (repeat (first | (with_reducible exact List.mem_cons_self) | with_reducible apply List.mem_cons_of_mem))); (· (with_reducible first | exact edg_g0 .. | exact edg_g1 .. | exact edg_g2 ..)); (simp only [Act.put, List.setIfInBounds_toArray, List.set_cons_zero, List.set_cons_succ])) | ((with_reducible apply wpQ_loadCH); (· exact cell_int); (· rfl); (· rfl); (· (repeat (first | (with_reducible exact List.mem_cons_self) | with_reducible apply List.mem_cons_of_mem))); (· first | exact sr_getD _ _ h1 | exact sr_getD _ _ h2); (simp only [Act.put, List.setIfInBounds_toArray, List.set_cons_zero, List.set_cons_succ])) | go_big_quiet_step (fail))
      refine wpQuiet_nil ?_
      clear H
      intro _ H
      go_wp2_with (go_skip)
      refine wp_region_H H (by kernel_rfl) (by kernel_rfl) ?_
      repeat (first | go_big_quiet_skip | ((with_reducible apply wpQ_loadCH); (· first | exact cell_party | exact cell_i8); (· rfl); (· rfl); (· (repeat (first | (with_reducible exact List.mem_cons_self) | with_reducible apply List.mem_cons_of_mem))); (· (with_reducible first | exact edg_g0 .. | exact edg_g1 .. | exact edg_g2 ..)); (simp only [Act.put, List.setIfInBounds_toArray, List.set_cons_zero, List.set_cons_succ])) | ((with_reducible apply wpQ_loadCH); (· exact cell_int); (· rfl); (· rfl); (· (repeat (first | (with_reducible exact List.mem_cons_self) | with_reducible apply List.mem_cons_of_mem))); (· first | exact sr_getD _ _ h1 | exact sr_getD _ _ h2); (simp only [Act.put, List.setIfInBounds_toArray, List.set_cons_zero, List.set_cons_succ])) | go_big_quiet_step (fail))
      refine wpQuiet_nil ?_
      clear H
      intro _ H
      by_cases hc : s.D a + n < s.D b
      · have HC := Lib.hid (relax_yes (s := s) (e := ⟨a, b, n⟩) hc)
        go_wp2_with (go_skip)
        replace H := H.perm (.swap _ _ _)
        refine wp_region_O [14, 18] [0, 1, 2, 3, 4, 5, 6, 7, 8, 9, 10, 11, 12, 13, 15, 16, 14, 17, 18, 19] (fun l0 => ∃ pre, l0 = pre ++ (Cel px (edg a b n) 64 :: l)) H ⟨[_], rfl⟩ (by kernel_rfl) (by kernel_rfl) ?_
        iterate 16 (apply wpO_step; (· rfl); (· rfl); (· rfl); (· exact Nat.le_of_ble_eq_true rfl); (· rintro l0 ⟨pre, rfl⟩ w0 H0; (first | go_big_quiet_skip | ((with_reducible apply wpQ_loadCH); (· first | exact cell_party | exact cell_i8); (· rfl); (· rfl); (· ((refine List.mem_append_right _ ?_); (repeat (first | (with_reducible exact List.mem_cons_self) | with_reducible apply List.mem_cons_of_mem)))); (· (with_reducible first | exact edg_g0 .. | exact edg_g1 .. | exact edg_g2 ..)); (simp only [Act.put, List.setIfInBounds_toArray, List.set_cons_zero, List.set_cons_succ])) | go_big_quiet_step (fail)); (refine wpQuiet_nil ?_); (simp only [Array.getD_eq_getD_getElem?, List.getElem?_toArray, List.getElem?_cons_succ, List.getElem?_cons_zero, Option.getD_some]; rfl)); (simp only [Act.put, List.setIfInBounds_toArray, List.set_cons_zero, List.set_cons_succ]))
        ((with_reducible apply wpO_storeI); (· exact cell_int); (· rfl); (· rfl); (· rfl); (· rfl); (· rfl); (· (repeat (first | (with_reducible exact List.mem_cons_self) | with_reducible apply List.mem_cons_of_mem))); (· (rw [sr_sz]; omega)); (· exact sr_setD _ _ h2 _); (· (repeat (first | (with_reducible exact Repl.here) | with_reducible apply Repl.there))); (· exact ⟨[_], rfl⟩); (simp only [Act.put, List.setIfInBounds_toArray, List.set_cons_zero, List.set_cons_succ]))
        (apply wpO_step; (· rfl); (· rfl); (· rfl); (· exact Nat.le_of_ble_eq_true rfl); (· rintro l0 ⟨pre, rfl⟩ w0 H0; (first | go_big_quiet_skip | fail | go_big_quiet_step (fail)); (refine wpQuiet_nil ?_); (simp only [Array.getD_eq_getD_getElem?, List.getElem?_toArray, List.getElem?_cons_succ, List.getElem?_cons_zero, Option.getD_some]; rfl)); (simp only [Act.put, List.setIfInBounds_toArray, List.set_cons_zero, List.set_cons_succ]))
        ((with_reducible apply wpO_storeI); (· exact cell_party); (· rfl); (· rfl); (· rfl); (· rfl); (· rfl); (· (repeat (first | (with_reducible exact List.mem_cons_self) | with_reducible apply List.mem_cons_of_mem))); (· (rw [sr_sz]; omega)); (· exact sr_setP _ _ h2 _); (· (repeat (first | (with_reducible exact Repl.here) | with_reducible apply Repl.there))); (· exact ⟨[_], rfl⟩); (simp only [Act.put, List.setIfInBounds_toArray, List.set_cons_zero, List.set_cons_succ]))
        (apply wpO_step; (· rfl); (· rfl); (· rfl); (· exact Nat.le_of_ble_eq_true rfl); (· rintro l0 ⟨pre, rfl⟩ w0 H0; (first | go_big_quiet_skip | fail | go_big_quiet_step (fail)); (refine wpQuiet_nil ?_); (simp only [Array.getD_eq_getD_getElem?, List.getElem?_toArray, List.getElem?_cons_succ, List.getElem?_cons_zero, Option.getD_some]; rfl)); (simp only [Act.put, List.setIfInBounds_toArray, List.set_cons_zero, List.set_cons_succ]))
        (refine wpO_nil ?_; clear H; intro _ H)
        go_wp2_with (go_skip)
        refine ⟨⟨k + 1, _, by omega, by go_num, ?_, HG.out, ?_, ?_⟩, ?measure⟩
        · rw [HC.out]
        · have := HB2.out
          rw [show B + 128 * (k + 1) = B + 128 * k + 128 by omega]
          exact this
        · rw [HC.out]
          exact H.drop (.there .here)
        case measure => simp [intOf]; omega
      · have HC := Lib.hid (relax_no (s := s) (e := ⟨a, b, n⟩) hc)
        go_wp2_with (go_skip)
        refine ⟨⟨k + 1, _, by omega, by go_num, ?_, HG.out, ?_, ?_⟩, ?measure2⟩
        · rw [HC.out]
        · have := HB2.out
          rw [show B + 128 * (k + 1) = B + 128 * k + 128 by omega]
          exact this
        · rw [HC.out]
          exact H.tail
        case measure2 => simp [intOf]; omega
    · obtain rfl : k = en := by omega
      rw [List.drop_of_length_le (by rw [HL.out]; omega)] at hG
      have HG := Lib.hid hG
      clear hG
      go_wp2_with (go_skip)
      go_ret
      rw [HG.out]
      exact ⟨rfl, H⟩
end
end Go.Proofs.Ytglehneaphigdaa
