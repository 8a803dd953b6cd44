/- PathsRound: its walk. -/
import Derived.Test.YtglehneaphigdaaRef06r
import Derived.Test.YtglehneaphigdaaLives06
import Derived.Test.YtglehneaphigdaaOpen06
import Derived.Test.YtglehneaphigdaaHeapLoud
namespace Go.Proofs.Ytglehneaphigdaa
open Go.RowKit
set_option linter.unusedSimpArgs false
set_option linter.unusedVariables false
theorem round_le {F : List Edg} : ∀ x ∈ roundOf (F.filter keepE), x ≤ 255 := by
  cases h : runS (F.filter keepE) 16 zeroS with
  | none =>
    intro x hx
    unfold roundOf at hx
    rw [h] at hx
    cases hx
  | some s =>
    obtain ⟨tf, C, hR⟩ := round_found (keep_in F) h
    intro x hx
    obtain ⟨i, hi⟩ := List.mem_iff_getElem?.1 hx
    have hlt : i < (roundOf (F.filter keepE)).length := by
      apply Classical.byContradiction
      intro hn
      rw [List.getElem?_eq_none (by omega)] at hi
      cases hi
    have h1 := hR.get i hlt
    rw [h1] at hi
    cases hi
    have := hR.rng i hlt
    omega
theorem round_len {F : List Edg} : (roundOf (F.filter keepE)).length ≤ 16 := by
  cases h : runS (F.filter keepE) 16 zeroS with
  | none =>
    unfold roundOf
    rw [h]
    simp
  | some s =>
    obtain ⟨tf, C, hR⟩ := round_found (keep_in F) h
    exact hR.max
theorem slRE : SlTy Try.prog 65 66 3 3 (.agg #[.int .u8 0, .int .u8 0, .int .i8 0]) := slTy_mk Try.underlying65 (by kernel_rfl) rfl (by decide)
theorem bs_redg : Try.prog.underlying 65 = some (.slice 66) ∧ (Try.prog.info? 66).map (fun i => (i.size, i.zero.map Value.cells)) = some ((edg 0 0 0).size, some (edg 0 0 0)) ∧ 0 < (edg 0 0 0).size ∧ (edg 0 0 0).size ≤ 65536 := ⟨Try.underlying65, by kernel_rfl, by decide, by decide⟩
theorem madeRow0 {W w : World} {l : List Thing} {g m : Nat} {z : Value} {e size : Nat} (H : Heap W (Cel g (madeCells z.cells (m * size)) e :: l) w) (hz : z.cells.size = size) (hs : 0 < size) (hm : m ≤ maxLen) : Heap W (RowT e size (.slice (some ⟨g, 0, none⟩) 0 m) 0 [] :: l) w := by
  have := H.celRowA (n := 0) (m := m) (size := size) (by rw [size_madeCells]) (Nat.zero_le _) hm
  simpa using this
theorem edgC_one (f t n : Int) : OneCells (edg f t n).toList := by
  intro u hu
  simp [edg] at hu
  rcases hu with rfl | rfl | rfl <;> rfl
/-- What stands behind the edges. -/
abbrev litC : Array Value := #[.int .u8 0, .int .u8 0, .int .i8 77, .int .u8 0, .int .u8 0, .int .i8 78]
theorem litRow {W w : World} {l : List Thing} {x : Thing} (H : Heap W (x :: l) w) : Heap W (x :: Cel w.heap.size litC 64 :: l) (w.alloc (.cells litC 64)) := (H.alloc litC 64).perm (.swap _ _ _)
theorem litRd {W w : World} {l : List Thing} (H : Heap W l w) : Rd (w.alloc (.cells litC 64)) (some ⟨w.heap.size, 0, none⟩) litC.toList := (H.alloc litC 64).celRd List.mem_cons_self
theorem lit_one : OneCells litC.toList := by
  intro u hu
  rcases List.mem_cons.1 hu with rfl | hu
  · rfl
  rcases List.mem_cons.1 hu with rfl | hu
  · rfl
  rcases List.mem_cons.1 hu with rfl | hu
  · rfl
  rcases List.mem_cons.1 hu with rfl | hu
  · rfl
  rcases List.mem_cons.1 hu with rfl | hu
  · rfl
  rcases List.mem_cons.1 hu with rfl | hu
  · rfl
  cases hu
/-- The cells of an edge in a list that can be read. -/
theorem rd_edg {w : World} {b o k : Nat} {F : List Edg} {x : Edg} (R : Rd w (some ⟨b, o, none⟩) (edgL F)) (hk : F[k]? = some x) : w.cell? ⟨b, o + k * 3, none⟩ = some (.int .u8 (x.f : Int)) ∧ w.cell? ⟨b, o + k * 3 + 1, none⟩ = some (.int .u8 (x.t : Int)) ∧ w.cell? ⟨b, o + k * 3 + 2, none⟩ = some (.int .i8 x.c) := by
  have hlt : k < F.length := by
    apply Classical.byContradiction
    intro hn
    rw [List.getElem?_eq_none (by omega)] at hk
    cases hk
  have hl := edgL_len F
  have hat := edgL_at F k hlt
  rw [List.getElem?_eq_getElem hlt] at hk
  rw [Option.some.inj hk] at hat
  have key : ∀ j v, j < 3 → (edgV x)[j]? = some v → w.cell? ⟨b, o + k * 3 + j, none⟩ = some v := fun j v hj hv => by
    rw [← hat, List.getElem?_take, if_pos hj, List.getElem?_drop] at hv
    have hi : k * 3 + j < (edgL F).length := by omega
    rw [List.getElem?_eq_getElem hi] at hv
    have := R.get hi
    rw [Nat.add_assoc, this]
    exact hv
  exact ⟨key 0 _ (by omega) rfl, key 1 _ (by omega) rfl, key 2 _ (by omega) rfl⟩
structure PRLoop (W : World) (l : List Thing) (F : List Edg) (en : Nat) (v i : Value) (wr : World) : Prop where
  out : ∃ k : Nat, i = .int .i64 (k : Int) ∧ k ≤ en ∧ Heap W (RowT 66 3 v k (edgL (F.take k)) :: l) wr
structure PRTwo (W : World) (l : List Thing) (en : Nat) (i : Value) (wr : World) : Prop where
  out : ∃ k : Nat, i = .int .i64 (k : Int) ∧ k ≤ en ∧ Heap W l wr
theorem eqE_run (d : Nat) (a b n : Int) (w : World) : (Op.equalIn (d + 2) 64 (.agg (edg a b n)) (.agg (edg a b n))).run Try.prog w = .ok true w := by
  unfold edg
  rw [run_equalIn_struct w (d + 1) 64 _ _ (by kernel_rfl) (by kernel_rfl)]
  simp [go_sem, Try.underlying64, Try.underlying33, Try.underlying62]
theorem neqE_run (a b n : Int) (w : World) : (binOp .neq 64 (.agg (edg a b n)) (.agg (edg a b n))).run Try.prog w = .ok (.bool false) w := by
  have h : (Op.equal 64 (.agg (edg a b n)) (.agg (edg a b n))).run Try.prog w = .ok true w := eqE_run 9998 a b n w
  simp only [binOp]
  simp [Sem.run_bind, h]
section
variable {W w : World} {l : List Thing} {ops : Array Oper} {rest : List Oper} {a : Act}
theorem wpQ_neqE {dst : Option Tmp} {ty : TypeId} {pos : String} {after : Array Edge} {guard : Option (Nat × Bool)} {p q : Operand} {x y n : Int} {K : Act → Prop} {H : Heap W l w} (hw : Region.wanted ⟨dst, .binOp .neq 64 p q 64, ty, pos, after, guard⟩ (yielded ops a.tmps) = true) (hp : a.eval p = .agg (edg x y n)) (hq : a.eval q = .agg (edg x y n))
    (h : wpQuiet Try.prog ops (fun w' => ∃ d, w' = H.any d) K rest (a.put dst (.bool false))) : wpQuiet Try.prog ops (fun w' => ∃ d, w' = H.any d) K (⟨dst, .binOp .neq 64 p q 64, ty, pos, after, guard⟩ :: rest) a := by
  have hg : (Try.prog.eqGuardType Try.prog.depth 64) = false := by kernel_rfl
  refine BigFrame.wpQuiet_want hw fun K hK => ⟨_, ?_, hK _ h⟩
  rintro _ ⟨d, rfl⟩
  unfold Oper.quietAt execOp
  simp only [hp, hq, Sem.run_bind, neqE_run]
  simp [eqGuard, hg, neqE_run]
  exact ⟨rfl, rfl⟩
end
section
variable {W w : World} {l : List Thing}
set_option maxRecDepth 100000
set_option maxHeartbeats 4000000
theorem pround_many (a : Option Addr) (n c : Nat) (h : 300 < n) (hn : n ≤ 9223372036854775807) (H : Heap W l w) : Calls Try.prog 7 #[.slice a n c] w fun e w' => e = .returned (.bool true) ∧ Heap W l w' := by
  have L := fun (V : World) (H : Heap W l V) => lives06_H (W := W) (l := l) (w := V) H
  go_enter Try.func7, Try.ntmps7
  go_wp2_with (first | go_skip | ((with_reducible refine (L _ H).mono ?_); clear H; rintro _ _ ⟨rfl, H⟩))
  go_ret
  exact ⟨rfl, H⟩
theorem pround_few (ea : Option Addr) (en ec : Nat) (F : List Edg) (h : en ≤ 300) (hl : F.length = en) (hF : ∀ x ∈ F, EdgOk x) (R : ∀ l' w', (∀ x ∈ l, x ∈ l') → Heap W l' w' → Rd w' ea (edgL F)) (H : Heap W l w) :
    Calls Try.prog 7 #[.slice ea en ec] w fun e w' => e = .returned (.bool true) ∧ Heap W l w' := by
  have L := fun (V : World) (l : List Thing) (H : Heap W l V) => lives06_H (W := W) (l := l) (w := V) H
  have HF := Lib.hid hF
  have HL := Lib.hid hl
  have HR := Lib.hid R
  have hnl : (edgL F).length = en * 3 := by rw [edgL_len, hl]
  have HNL := Lib.hid hnl
  have hone := edgL_ones F
  have h1 : 0 + en ≤ maxLen := by unfold maxLen; omega
  have h2 : (0 + en) * 3 ≤ 140737488355328 := by omega
  have h3 : 0 + en + 2 ≤ maxLen := by unfold maxLen; omega
  have h4 : (0 + en + 2) * 3 ≤ 140737488355328 := by omega
  have h5 : en + 2 ≤ maxLen := by unfold maxLen; omega
  have h6 : en + 2 ≤ 65536 := by omega
  have h7 : 3 * (en + 2) ≤ 281474976710656 := by omega
  clear hl hF R hnl
  go_enter Try.func7, Try.ntmps7
  go_wp2_with (first
    | go_skip
    | ((with_reducible show wpList _ _ _ (_ :: _) _ _); (with_reducible apply wpl_makeC slE (n := 0) (m := en + 2)); (· rfl); (· rfl); (· rfl); (· rfl); (· omega); (· omega); (· omega); (· exact H); (clear H; intro pm _ H); (simp only [Act.put, List.setIfInBounds_toArray, List.set_cons_zero, List.set_cons_succ]))
    | ((with_reducible show wpList _ _ _ (_ :: _) _ _); (with_reducible apply wpl_appendA slE); (· rfl); (· rfl); (· rfl); (· rfl); (· exact madeRow0 H rfl (by decide) h5); (· exact HR.out _ _ (fun x hx => List.mem_cons_of_mem _ hx) H); (· exact HNL.out); (· exact hone); (· exact h1); (· exact h2); (clear H; intro v1 _ _ H); (simp only [Act.put, List.setIfInBounds_toArray, List.set_cons_zero, List.set_cons_succ]))
    | ((with_reducible show wpList _ _ _ (_ :: _) _ _); (with_reducible apply wpl_appendA slE); (· rfl); (· rfl); (· rfl); (· rfl); (· exact litRow H); (· exact litRd H); (· rfl); (· exact lit_one); (· exact h3); (· exact h4); (clear H; intro v2 _ _ H; obtain ⟨a2, c2, rfl, hc2, hm2⟩ := RowT.form0 (H.ok _ List.mem_cons_self)); (simp only [Act.put, List.setIfInBounds_toArray, List.set_cons_zero, List.set_cons_succ]))
    | ((with_reducible show wpList _ _ _ (_ :: _) _ _); (with_reducible apply wpl_cutTo slE); (· rfl); (· rfl); (· rfl); (· omega); (simp only [Act.put, List.setIfInBounds_toArray, List.set_cons_zero, List.set_cons_succ])))
  simp only [Nat.zero_add, List.nil_append] at H
  replace H := H.drop (.there .here)
  obtain ⟨g, c3, e, _, _⟩ := RowT.sl (H.ok _ List.mem_cons_self) (by omega)
  simp only [Value.slice.injEq, true_and] at e
  obtain ⟨rfl, rfl⟩ := e
  rw [Nat.zero_add] at hc2
  unfold maxLen at hm2
  obtain ⟨TT, hTT⟩ : ∃ TT, TT = RowT 64 3 (.slice (some ⟨g, 0, none⟩) (en + 2) c2) (en + 2) (edgL F ++ litC.toList) := ⟨_, rfl⟩
  rw [← hTT] at H
  have HTT := Lib.hid (show ∀ l' w', TT ∈ l' → Heap W l' w' → Rd w' (some ⟨g, 0, none⟩) (edgL F ++ litC.toList) from fun l' w' m h => by subst hTT; exact h.rowRd m)
  have HTF := Lib.hid (show ∀ l' w', TT ∈ l' → Heap W l' w' → Rd w' (some ⟨g, 0, none⟩) (edgL F) from fun l' w' m h => by
    have := (HTT.out l' w' m h).takeN (edgL F).length
    rwa [List.take_left] at this)
  clear hTT hone h1 h2 h3 h4 h5 h6 h7
  have H0 := H.nilRow 66 3
  clear H
  go_loopw [4, 5] (fun v i wr => PRLoop W (TT :: l) F en v i wr) (fun _ i _ => en - (intOf i).toNat)
  case atStart => exact ⟨0, rfl, by omega, H0⟩
  case round =>
    obtain ⟨k, rfl, hk, H'⟩ := hrel.out
    clear H0 hrel
    have H := H'
    clear H'
    by_cases hlt : k < en
    · have hkF : F[k]? = some (F[k]'(by rw [HL.out]; exact hlt)) := List.getElem?_eq_getElem _
      have hok := HF.out _ (List.mem_iff_getElem?.2 ⟨_, hkF⟩)
      have htk : F.take (k + 1) = F.take k ++ [F[k]'(by rw [HL.out]; exact hlt)] := by rw [List.take_add_one, hkF]; rfl
      generalize F[k]'(by rw [HL.out]; exact hlt) = x at *
      obtain ⟨eb, eo, rfl, _⟩ := (HR.out _ _ (fun x hx => List.mem_cons_of_mem _ (List.mem_cons_of_mem _ hx)) H).lt (by rw [HNL.out]; omega)
      have HC := Lib.hid (show ∀ l' w', (∀ x ∈ l, x ∈ l') → Heap W l' w' → _ from fun l' w' hs h => rd_edg (HR.out l' w' hs h) hkF)
      have HTK := Lib.hid htk
      obtain ⟨a, b, n⟩ := x
      obtain ⟨o1, o2, o3, o4⟩ := hok
      simp only at o1 o2 o3 o4
      have hn1 : k + 1 ≤ maxLen := by unfold maxLen; omega
      have hn2 : (k + 1) * 3 ≤ 140737488355328 := by omega
      clear hkF htk
      go_wp2_with (go_skip)
      refine wp_region_O [17, 18] [0, 1, 2, 3, 4, 5, 6, 7, 8, 9, 10, 11, 12, 13, 14, 15, 16, 17, 18, 19] (fun l0 => ∃ pre, l0 = pre ++ (TT :: l)) H ⟨[_], rfl⟩ (by kernel_rfl) (by kernel_rfl) ?_
      iterate 17 (apply wpO_step; (· rfl); (· rfl); (· rfl); (· exact Nat.le_of_ble_eq_true rfl); (· rintro l0 ⟨pre, rfl⟩ w0 H0; (first | go_big_quiet_skip | ((with_reducible apply wpQ_loadCell); (· first | exact cell_party | exact cell_i8); (· rfl); (· rfl); (· first | exact fun w' h => (HC.out _ w' (fun x hx => List.mem_append_right _ (List.mem_cons_of_mem _ hx)) h).1 | exact fun w' h => (HC.out _ w' (fun x hx => List.mem_append_right _ (List.mem_cons_of_mem _ hx)) h).2.1 | exact fun w' h => (HC.out _ w' (fun x hx => List.mem_append_right _ (List.mem_cons_of_mem _ hx)) h).2.2); (simp only [Act.put, List.setIfInBounds_toArray, List.set_cons_zero, List.set_cons_succ])) | go_big_quiet_step (fail)); (refine wpQuiet_nil ?_); (simp only [Array.getD_eq_getD_getElem?, List.getElem?_toArray, List.getElem?_cons_succ, List.getElem?_cons_zero, Option.getD_some]; rfl)); (simp only [Act.put, List.setIfInBounds_toArray, List.set_cons_zero, List.set_cons_succ]))
      refine wpO_bsR rfl rfl rfl bs_redg rfl (fun p => ⟨[_, _], rfl⟩) ?_
      intro pf
      (simp only [Act.put, List.setIfInBounds_toArray, List.set_cons_zero, List.set_cons_succ])
      refine wpO_append slRE rfl rfl rfl rfl (.there .here) List.mem_cons_self rfl rfl (edgC_one _ _ _) hn1 hn2 (fun v => ⟨[_, _], rfl⟩) ?_
      intro v2
      (simp only [Act.put, List.setIfInBounds_toArray, List.set_cons_zero, List.set_cons_succ])
      (apply wpO_step; (· rfl); (· rfl); (· rfl); (· exact Nat.le_of_ble_eq_true rfl); (· rintro l0 ⟨pre, rfl⟩ w0 H0; (first | go_big_quiet_skip | fail | go_big_quiet_step (fail)); (refine wpQuiet_nil ?_); (simp only [Array.getD_eq_getD_getElem?, List.getElem?_toArray, List.getElem?_cons_succ, List.getElem?_cons_zero, Option.getD_some]; rfl)); (simp only [Act.put, List.setIfInBounds_toArray, List.set_cons_zero, List.set_cons_succ]))
      (refine wpO_nil ?_; clear H; intro _ H)
      go_wp2_with (go_skip)
      go_roundw
      case rel =>
        refine ⟨⟨k + 1, by go_num, by omega, ?_⟩⟩
        rw [HTK.out, edgL_app]
        exact H.drop (.there .here)
      case measure => simp [intOf]; omega
    · obtain rfl : en = k := by omega
      rw [List.take_of_length_le (by rw [HL.out]; exact Nat.le_refl _)] at H
      obtain ⟨a4, c4, rfl, _, _⟩ := RowT.form0 (H.ok _ List.mem_cons_self)
      have hR1 := fun (l1 : List Thing) (m : TT ∈ l1) (V : World) (H : Heap W l1 V) => round_H (W := W) (l := l1) (w := V) (some ⟨g, 0, none⟩) en c2 F HL.out (by omega) HF.out (fun w' h => HTF.out l1 w' m h) H
      have hR2 := fun (l1 l0 : List Thing) (hl : RowT 66 3 (.slice a4 en c4) en (edgL F) ∈ l1) (V : World) (H : Heap W l1 V) => ref_round_H (W := W) (l := l1) (w := V) a4 en c4 F HL.out h HF.out (fun l' w' hs h => h.rowRd (hs _ hl)) H
      have hlen := round_len (F := F)
      have hle := round_le (F := F)
      unfold RoundPost at hR1 hR2
      obtain ⟨LL, hLL⟩ : ∃ LL, roundOf (F.filter keepE) = LL := ⟨_, rfl⟩
      rw [hLL] at hlen hle hR2
      simp only [hLL] at hR1
      obtain ⟨ln, hln⟩ : ∃ ln, LL.length = ln := ⟨_, rfl⟩
      simp only [hln] at hR1 hR2 hlen
      have HLE := Lib.hid (And.intro hln hle)
      clear hLL hln hle
      go_wp2_with (go_skip)
      refine (hR1 _ (by (repeat (first | (with_reducible exact List.mem_cons_self) | with_reducible apply List.mem_cons_of_mem))) _ H).mono ?_
      clear H
      rintro e w1 ⟨va, rfl, H⟩
      go_wp2_with (go_skip)
      refine (hR1 _ (by (repeat (first | (with_reducible exact List.mem_cons_self) | with_reducible apply List.mem_cons_of_mem))) _ H).mono ?_
      clear H
      rintro e w2 ⟨vb, rfl, H⟩
      go_wp2_with (go_skip)
      refine (hR2 _ l (by (repeat (first | (with_reducible exact List.mem_cons_self) | with_reducible apply List.mem_cons_of_mem))) _ H).mono ?_
      clear H hR1 hR2
      rintro e w3 ⟨vc, rfl, H⟩
      obtain ⟨ac, cc, rfl⟩ := OwnT.form0 (H.ok _ List.mem_cons_self)
      obtain ⟨ab, cb, rfl⟩ := OwnT.form0 (H.ok _ (List.mem_cons_of_mem _ List.mem_cons_self))
      obtain ⟨aa, ca, rfl⟩ := OwnT.form0 (H.ok _ (List.mem_cons_of_mem _ (List.mem_cons_of_mem _ List.mem_cons_self)))
      have S1 := sameParties_P (W := W) (l := OwnT 33 1 (.slice ac ln cc) ln (LL.map pv) :: OwnT 33 1 (.slice ab ln cb) ln (LL.map pv) :: OwnT 33 1 (.slice aa ln ca) ln (LL.map pv) :: RowT 66 3 (.slice a4 en c4) en (edgL F) :: TT :: l) (A := LL) (B := LL) aa ac ln ca cc HLE.out.1 HLE.out.1 (by omega) HLE.out.2 HLE.out.2 (fun w' h => h.ownRd (by (repeat (first | (with_reducible exact List.mem_cons_self) | with_reducible apply List.mem_cons_of_mem)))) (fun w' h => h.ownRd (by (repeat (first | (with_reducible exact List.mem_cons_self) | with_reducible apply List.mem_cons_of_mem))))
      have S2 := sameParties_P (W := W) (l := OwnT 33 1 (.slice ac ln cc) ln (LL.map pv) :: OwnT 33 1 (.slice ab ln cb) ln (LL.map pv) :: OwnT 33 1 (.slice aa ln ca) ln (LL.map pv) :: RowT 66 3 (.slice a4 en c4) en (edgL F) :: TT :: l) (A := LL) (B := LL) aa ab ln ca cb HLE.out.1 HLE.out.1 (by omega) HLE.out.2 HLE.out.2 (fun w' h => h.ownRd (by (repeat (first | (with_reducible exact List.mem_cons_self) | with_reducible apply List.mem_cons_of_mem)))) (fun w' h => h.ownRd (by (repeat (first | (with_reducible exact List.mem_cons_self) | with_reducible apply List.mem_cons_of_mem))))
      rw [decide_eq_true rfl] at S1 S2
      go_wp2_with (first | go_skip | ((with_reducible refine AnsH.call (by assumption) H ?_); clear H; intro _ H))
      clear S1 S2
      replace H := H.tail
      have H0 := H
      clear H
      go_loopw [8] (fun i wr => PRTwo W (OwnT 33 1 (.slice ab ln cb) ln (LL.map pv) :: OwnT 33 1 (.slice aa ln ca) ln (LL.map pv) :: RowT 66 3 (.slice a4 en c4) en (edgL F) :: TT :: l) en i wr) (fun i _ => en - (intOf i).toNat)
      case atStart => exact ⟨0, rfl, by omega, H0⟩
      case round =>
        obtain ⟨k, rfl, hk, H'⟩ := hrel.out
        clear H0 hrel
        have H := H'
        clear H'
        by_cases hlt : k < en
        · have hkF : k < F.length := by rw [HL.out]; exact hlt
          have hat := edgL_at F k hkF
          have hlen3 : k * 3 + 3 ≤ (edgL F).length := by rw [HNL.out]; omega
          generalize F[k] = x at hat
          obtain ⟨a, b, n⟩ := x
          have hrow : (((edgL F).drop (k * 3)).take 3).toArray = edg a b n := by rw [hat]; rfl
          obtain ⟨eb, eo, rfl, _⟩ := (HR.out _ _ (fun x hx => by (repeat (first | (with_reducible exact hx) | with_reducible apply List.mem_cons_of_mem))) H).lt (by omega)
          clear hat hkF
          have HT1 := Lib.hid (show ∀ w', Heap W (OwnT 33 1 (.slice ab ln cb) ln (LL.map pv) :: OwnT 33 1 (.slice aa ln ca) ln (LL.map pv) :: RowT 66 3 (.slice a4 en c4) en (edgL F) :: TT :: l) w' → Rd w' (some ⟨g, 0, none⟩) (edgL F) from fun w' h => HTF.out _ w' (by (repeat (first | (with_reducible exact List.mem_cons_self) | with_reducible apply List.mem_cons_of_mem))) h)
          have HE1 := Lib.hid (show ∀ w', Heap W (OwnT 33 1 (.slice ab ln cb) ln (LL.map pv) :: OwnT 33 1 (.slice aa ln ca) ln (LL.map pv) :: RowT 66 3 (.slice a4 en c4) en (edgL F) :: TT :: l) w' → Rd w' (some ⟨eb, eo, none⟩) (edgL F) from fun w' h => HR.out _ w' (fun x hx => by (repeat (first | (with_reducible exact hx) | with_reducible apply List.mem_cons_of_mem))) h)
          go_wp2_with (go_skip)
          refine wp_region_H H (by kernel_rfl) (by kernel_rfl) ?_
          repeat (first | go_big_quiet_skip | (first | ((with_reducible apply wpQ_loadRdR0 row_edg); (· rfl); (· rfl); (· exact HT1.out); (· exact hlen3); (· decide); (· exact hrow); (simp only [Act.put, List.setIfInBounds_toArray, List.set_cons_zero, List.set_cons_succ])) | ((with_reducible apply wpQ_loadRdR row_edg); (· rfl); (· rfl); (· exact HE1.out); (· rfl); (· exact hlen3); (· decide); (· exact hrow); (simp only [Act.put, List.setIfInBounds_toArray, List.set_cons_zero, List.set_cons_succ])) | ((with_reducible apply wpQ_neqE); (· rfl); (· rfl); (· rfl); (simp only [Act.put, List.setIfInBounds_toArray, List.set_cons_zero, List.set_cons_succ]))) | go_big_quiet_step (fail))
          refine wpQuiet_nil ?_
          clear H
          intro _ H
          go_wp2_with (go_skip)
          refine ⟨?_, ?_⟩
          · exact ⟨⟨k + 1, by go_num, by omega, H⟩⟩
          · simp [intOf]; omega
        · obtain rfl : en = k := by omega
          obtain ⟨q, hq⟩ : ∃ q, c2 - en = q := ⟨_, rfl⟩
          have hq2 : 2 ≤ q := by omega
          have hcut : cutA (some ⟨g, 0, none⟩) c2 en 3 = some ⟨g, en * 3, none⟩ := by
            unfold cutA
            rw [if_neg (by omega)]
            simp [addr_add]
          have HCUT := Lib.hid (And.intro hcut hq)
          have hle2 : en ≤ c2 := by omega
          have HCL := Lib.hid (show ∀ l' w', TT ∈ l' → Heap W l' w' → w'.cell? ⟨g, en * 3 + 2, none⟩ = some (.int .i8 77) ∧ w'.cell? ⟨g, en * 3 + 5, none⟩ = some (.int .i8 78) from fun l' w' m hh => by
            have hr := HTT.out l' w' m hh
            have hl := HNL.out
            have h2 := hr.get (i := en * 3 + 2) (by rw [List.length_append, hl]; simp)
            have h5 := hr.get (i := en * 3 + 5) (by rw [List.length_append, hl]; simp)
            rw [Nat.zero_add] at h2 h5
            rw [h2, h5]
            constructor
            · rw [List.getElem_append_right (by omega)]
              simp [hl]
            · rw [List.getElem_append_right (by omega)]
              simp [hl])
          have HCA := Lib.hid (show ∀ w', Heap W (OwnT 33 1 (.slice ab ln cb) ln (LL.map pv) :: OwnT 33 1 (.slice aa ln ca) ln (LL.map pv) :: RowT 66 3 (.slice a4 en c4) en (edgL F) :: TT :: l) w' → w'.cell? ⟨g, en * 3 + 2, none⟩ = some (.int .i8 77) ∧ w'.cell? ⟨g, en * 3 + 5, none⟩ = some (.int .i8 78) from fun w' hh => HCL.out _ w' (by (repeat (first | (with_reducible exact List.mem_cons_self) | with_reducible apply List.mem_cons_of_mem))) hh)
          have q1 : decide ((q : Int) < 2) = false := by simp; omega
          clear hcut hq
          go_wp2_with (first
            | go_skip
            | ((with_reducible show wpList _ _ _ (_ :: _) _ _); (with_reducible apply wpl_cutBoth slE); (· rfl); (· rfl); (· rfl); (· rfl); (· exact hle2); (· exact Nat.le_refl _); (· exact HCUT.out.1); (· exact HCUT.out.2); (· exact HCUT.out.2); (simp only [Act.put, List.setIfInBounds_toArray, List.set_cons_zero, List.set_cons_succ]))
            | ((with_reducible show wpList _ _ _ (_ :: _) _ _); (with_reducible apply wpl_loadCell); (· exact cell_i8); (· rfl); (· rfl); (· first | exact (HCA.out _ H).1 | exact (HCA.out _ H).2); (simp only [Act.put, List.setIfInBounds_toArray, List.set_cons_zero, List.set_cons_succ]))
            | ((with_reducible show wpList _ _ _ (_ :: _) _ _); (with_reducible apply wpl_allocRH row_book); (· rfl); (· exact H); (clear H; intro kb _ H); (simp only [Act.put, List.setIfInBounds_toArray, List.set_cons_zero, List.set_cons_succ]))
            | ((with_reducible show wpList _ _ _ (_ :: _) _ _); (with_reducible apply wpl_storeRH row_book); (· rfl); (· rfl); (· rfl); (· with_reducible exact bookC_cells); (· exact H); (· (repeat (first | (with_reducible exact List.mem_cons_self) | with_reducible apply List.mem_cons_of_mem))); (· (simp only [bookC_sz, Nat.reduceAdd, Nat.reduceLeDiff, Nat.le_refl]; done)); (· with_reducible exact bookC_splice ..); (· (repeat (first | (with_reducible exact Repl.here) | with_reducible apply Repl.there))); (clear H; intro _ H); (simp only [Act.put, List.setIfInBounds_toArray, List.set_cons_zero, List.set_cons_succ])))
          have B := Book.new (H.perm (.cons _ (.swap _ _ _)))
          clear H
          refine (lay_Pa kb [] aa ln ca (by decide) B).mono ?_
          clear B
          rintro e w5 ⟨rfl, p1, B⟩
          go_wp2_with (go_skip)
          refine (lay_Pa kb _ ab ln cb (by simp) B).mono ?_
          clear B
          rintro e w6 ⟨rfl, p2, B⟩
          go_wp2_with (go_skip)
          refine (B.apart (by simp)).mono ?_
          clear B
          rintro e w7 ⟨rfl, H⟩
          go_wp2_with (first | go_skip | ((with_reducible refine (L _ _ H).mono ?_); clear H; rintro _ _ ⟨rfl, H⟩))
          go_ret
          exact ⟨rfl, H.tail.tail⟩
end
end Go.Proofs.Ytglehneaphigdaa
