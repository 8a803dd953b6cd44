/- PathsCheap: its tables, and its walk. -/
import Derived.Test.YtglehneaphigdaaCheap2
import Derived.Test.YtglehneaphigdaaLives06
namespace Go.Proofs.Ytglehneaphigdaa
open Go.RowKit
set_option linter.unusedSimpArgs false
set_option linter.unusedVariables false
theorem mat_get (c : Caps) {a b : Nat} (ha : a < 17) (hb : b < 17) : (mat c)[a * 17 + b]? = some (.int .i64 (c a b)) := by
  unfold mat
  rw [tab_get _ (by omega), (idx17 hb).1, (idx17 hb).2]
theorem mat_set (c : Caps) {a b : Nat} (ha : a < 17) (hb : b < 17) (v : Int) : (mat c).setIfInBounds (a * 17 + b) (.int .i64 v) = mat (upd2 c a b v) := by
  unfold mat
  rw [tab_set _ _ (by omega)]
  apply tab_congr
  intro i hi
  unfold upd2
  by_cases e : i = a * 17 + b
  · subst e
    rw [if_pos rfl, if_pos ⟨(idx17 hb).1, (idx17 hb).2⟩]
  · rw [if_neg e, if_neg (by omega)]
theorem mat_ext {c d : Caps} (h : ∀ a b, a < 17 → b < 17 → c a b = d a b) : mat c = mat d := by
  unfold mat
  apply tab_congr
  intro i hi
  rw [h _ _ (by omega) (by omega)]
theorem row_matI : RowTy 76 289 (mat fun _ _ => 0) := ⟨⟨_, Try.underlying76, rfl⟩, by kernel_rfl, by kernel_rfl⟩
/-- The least costs by both ends. -/
def cstS (c : Caps) (e : Edg) : Caps := if keepE e then upd2 c e.f e.t (min (c e.f e.t) e.c) else c
def cst (F : List Edg) : Caps := F.foldl cstS fun _ _ => 1048576
theorem cstS_yes {c : Caps} {e : Edg} (h : keepE e = true) : cstS c e = upd2 c e.f e.t (min (c e.f e.t) e.c) := if_pos h
theorem cstS_no {c : Caps} {e : Edg} (h : keepE e = false) : cstS c e = c := if_neg (by rw [h]; exact Bool.false_ne_true)
theorem cstS_le (c : Caps) (e : Edg) (a b : Nat) : cstS c e a b ≤ c a b := by
  unfold cstS
  split
  · unfold upd2
    split
    · rename_i h; obtain ⟨rfl, rfl⟩ := h; omega
    · exact Int.le_refl _
  · exact Int.le_refl _
theorem cstF_le : ∀ (F : List Edg) (c : Caps) (a b : Nat), F.foldl cstS c a b ≤ c a b
  | [], c, a, b => Int.le_refl _
  | e :: F, c, a, b => Int.le_trans (cstF_le F (cstS c e) a b) (cstS_le c e a b)
theorem cstF_edge : ∀ (F : List Edg) (c : Caps) (e : Edg), e ∈ F.filter keepE → F.foldl cstS c e.f e.t ≤ e.c
  | x :: F, c, e, h => by
    have hm := List.mem_filter.1 h
    rcases List.mem_cons.1 hm.1 with rfl | h1
    · refine Int.le_trans (cstF_le F (cstS c e) e.f e.t) ?_
      rw [cstS_yes hm.2]
      unfold upd2
      rw [if_pos ⟨rfl, rfl⟩]
      omega
    · exact cstF_edge F (cstS c x) e (List.mem_filter.2 ⟨h1, hm.2⟩)
theorem cstF_ge {lo : Nat → Nat → Int} : ∀ (F : List Edg) (c : Caps), (∀ a b, lo a b ≤ c a b) → (∀ e ∈ F.filter keepE, lo e.f e.t ≤ e.c) → ∀ a b, lo a b ≤ F.foldl cstS c a b
  | [], c, h, _, a, b => h a b
  | e :: F, c, h, hE, a, b => by
    refine cstF_ge F (cstS c e) (fun a b => ?_) (fun x hx => hE x ?_) a b
    · cases hk : keepE e
      · rw [cstS_no hk]; exact h a b
      · rw [cstS_yes hk]
        unfold upd2
        split
        · rename_i hab
          obtain ⟨rfl, rfl⟩ := hab
          have h1 := h e.f e.t
          have h2 := hE e (List.mem_filter.2 ⟨List.mem_cons_self, hk⟩)
          omega
        · exact h a b
    · have := List.mem_filter.1 hx
      exact List.mem_filter.2 ⟨List.mem_cons_of_mem _ this.1, this.2⟩
/-- Costs over potentials. -/
structure Pot (D : Nat → Int) (c : Caps) : Prop where
  bnd : ∀ i, -614400 ≤ D i ∧ D i ≤ 0
  ge : ∀ a b, D b - D a ≤ c a b
  le : ∀ a b, c a b ≤ 1048576
theorem Pot.cst {D : Nat → Int} {F : List Edg} (hb : ∀ i, -614400 ≤ D i ∧ D i ≤ 0) (h : ∀ e ∈ F.filter keepE, D e.t ≤ D e.f + e.c) : Pot D (cst F) :=
  ⟨hb, cstF_ge (lo := fun a b => D b - D a) F _ (fun a b => by have := hb a; have := hb b; omega) (fun e he => by have := h e he; omega), fun a b => cstF_le F _ a b⟩
theorem Pot.step {D : Nat → Int} {c : Caps} (h : Pot D c) (a m b : Nat) : Pot D (upd2 c a b (min (c a b) (c a m + c m b))) := by
  refine ⟨h.bnd, fun x y => ?_, fun x y => ?_⟩
  · unfold upd2
    split
    · rename_i e
      obtain ⟨rfl, rfl⟩ := e
      have := h.ge x y
      have := h.ge x m
      have := h.ge m y
      omega
    · exact h.ge x y
  · unfold upd2
    split
    · have := h.le a b; omega
    · exact h.le x y
theorem rsum_bnd {g : Nat → Int} {lo hi : Int} : ∀ n, (∀ i, i < n → lo ≤ g i ∧ g i ≤ hi) → lo * n ≤ rsum g n ∧ rsum g n ≤ hi * n
  | 0, _ => by simp [rsum]
  | n + 1, h => by
    have h1 := rsum_bnd n (fun i hi => h i (by omega))
    have h2 := h n (by omega)
    rw [rsum, show ((n + 1 : Nat) : Int) = (n : Int) + 1 from rfl, Int.mul_add, Int.mul_add, Int.mul_one, Int.mul_one]
    omega
/-- What is known of the costs, and of the round. -/
theorem keep_inH (F : List Edg) : InH (F.filter keepE) := fun e he => by
  have h := (List.mem_filter.1 he).2
  unfold keepE at h
  rw [Bool.and_eq_true] at h
  have h1 := mayP_true h.1
  have h2 := mayP_true h.2
  omega
theorem round_either (F : List Edg) (hF : ∀ x ∈ F, EdgOk x) (hn : F.length ≤ 300) : (∃ tf C, IsRnd (F.filter keepE) (roundOf (F.filter keepE)) tf C) ∨ (roundOf (F.filter keepE) = [] ∧ ∃ D, Pot D (cst F)) := by
  have hE := keep_inH F
  cases h : runS (F.filter keepE) 16 zeroS with
  | some s => exact .inl (round_found hE h)
  | none =>
    refine .inr ⟨by unfold roundOf; rw [h], ?_⟩
    have hlen : (F.filter keepE).length ≤ 300 := Nat.le_trans (List.length_filter_le ..) hn
    obtain ⟨D, h1, h2⟩ := run_none (F := F.filter keepE) (fun e he => ⟨by have := hE e he; omega, (hF e (List.mem_filter.1 he).1).2.2.1⟩) 16 zeroS 0 (fun i => ⟨by simp [zeroS], by simp [zeroS]⟩) h
    refine ⟨D, Pot.cst (fun i => ?_) h2⟩
    have := h1 i
    have h3 : 0 + 128 * (F.filter keepE).length * 16 ≤ 614400 := by omega
    omega
structure CFillA (W : World) (l : List Thing) (pc : Nat) (i : Value) (wr : World) : Prop where
  out : ∃ a : Nat, i = .int .i64 (a : Int) ∧ a ≤ 17 ∧ Heap W (Cel pc (mat fun x _ => if x < a then 1048576 else 0) 76 :: l) wr
structure CFillB (W : World) (l : List Thing) (pc a : Nat) (i : Value) (wr : World) : Prop where
  out : ∃ b : Nat, i = .int .i64 (b : Int) ∧ b ≤ 17 ∧ Heap W (Cel pc (mat fun x y => if x < a ∨ (x = a ∧ y < b) then 1048576 else 0) 76 :: l) wr
structure CEdges (W : World) (l : List Thing) (pc : Nat) (F : List Edg) (en : Nat) (i : Value) (wr : World) : Prop where
  out : ∃ (k : Nat) (c : Caps), i = .int .i64 (k : Int) ∧ k ≤ en ∧ (∀ a b, -128 ≤ c a b ∧ c a b ≤ 1048576) ∧ (F.drop k).foldl cstS c = cst F ∧ Heap W (Cel pc (mat c) 76 :: l) wr
structure CFw (W : World) (l : List Thing) (pc : Nat) (D : Nat → Int) (k : Nat) (i : Value) (wr : World) : Prop where
  out : ∃ (a : Nat) (c : Caps), i = .int .i64 (a : Int) ∧ 1 ≤ a ∧ a ≤ 17 ∧ Pot D c ∧ Heap W (Cel pc (mat c) 76 :: l) wr
structure CRnd (W : World) (l : List Thing) (m : Nat) (g : Nat → Int) (v i : Value) (wr : World) : Prop where
  out : ∃ k : Nat, i = .int .i64 (k : Int) ∧ k ≤ m ∧ v = .int .i64 (rsum g k) ∧ Heap W l wr
structure CTwo (W : World) (l : List Thing) (m : Nat) (i : Value) (wr : World) : Prop where
  out : ∃ k : Nat, i = .int .i64 (k : Int) ∧ k ≤ m ∧ Heap W l wr
theorem bnd8 {c : Caps} {x : Edg} (h : ∀ a b, -128 ≤ c a b ∧ c a b ≤ 1048576) (hx : -128 ≤ x.c) : ∀ a b, -128 ≤ cstS c x a b ∧ cstS c x a b ≤ 1048576 := fun a b => by
  have h1 := cstS_le c x a b
  have h2 := h a b
  refine ⟨?_, by omega⟩
  cases hk : keepE x
  · rw [cstS_no hk]; omega
  · rw [cstS_yes hk]
    unfold upd2
    split
    · have := h x.f x.t; omega
    · omega
attribute [local go_sem high] run_min2
section
variable {W w : World} {l : List Thing}
set_option maxRecDepth 100000
set_option maxHeartbeats 4000000
theorem cheap_many (a : Option Addr) (n c : Nat) (h : 300 < n) (hn : n ≤ 9223372036854775807) (H : Heap W l w) : Calls Try.prog 9 #[.slice a n c] w fun e w' => e = .returned (.bool true) ∧ Heap W l w' := by
  have L := fun (V : World) (H : Heap W l V) => lives06_H (W := W) (l := l) (w := V) H
  go_enter Try.func9, Try.ntmps9
  go_wp2_with (first | go_skip | ((with_reducible refine (L _ H).mono ?_); clear H; rintro _ _ ⟨rfl, H⟩))
  go_ret
  exact ⟨rfl, H⟩
theorem cheap_few (ea : Option Addr) (en ec : Nat) (F : List Edg) (h : en ≤ 300) (hl : F.length = en) (hF : ∀ x ∈ F, EdgOk x) (R : ∀ l' w', (∀ x ∈ l, x ∈ l') → Heap W l' w' → Rd w' ea (edgL F)) (H : Heap W l w) :
    Calls Try.prog 9 #[.slice ea en ec] w fun e w' => e = .returned (.bool true) ∧ Heap W l w' := by
  have L := fun (V : World) (l : List Thing) (H : Heap W l V) => lives06_H (W := W) (l := l) (w := V) H
  have RO := fun (V : World) (l' : List Thing) (hs : ∀ x ∈ l, x ∈ l') (H : Heap W l' V) => round_H (W := W) (l := l') (w := V) ea en ec F hl (by omega) hF (fun w' h => R l' w' hs h) H
  have E := Lib.hid (round_either F hF (by omega))
  have HF := Lib.hid hF
  have HL := Lib.hid hl
  have HR := Lib.hid R
  clear hl hF R
  go_enter Try.func9, Try.ntmps9
  go_wp2_with (first | go_skip | ((with_reducible show wpList _ _ _ (_ :: _) _ _); (with_reducible apply wpl_allocRH row_matI); (· rfl); (· exact H); (clear H; intro pc _ H); (simp only [Act.put, List.setIfInBounds_toArray, List.set_cons_zero, List.set_cons_succ])))
  have H0 := H
  clear H
  go_loopw [4] (fun i wr => CFillA W l pc i wr) (fun i _ => 17 - (intOf i).toNat)
  case atStart => exact ⟨0, rfl, by omega, by rw [show (mat fun x y => if x < 0 then 1048576 else 0) = mat (fun _ _ => 0) from mat_ext fun a b _ _ => by simp]; exact H0⟩
  case round =>
    obtain ⟨a, rfl, ha, H'⟩ := hrel.out
    clear H0 hrel
    have H := H'
    clear H'
    by_cases hlt : a < 17
    · go_wp2_with (go_skip)
      have H0 := H
      clear H
      go_loopw [5] (fun i wr => CFillB W l pc a i wr) (fun i _ => 17 - (intOf i).toNat)
      case atStart => exact ⟨0, rfl, by omega, by rw [show (mat fun x y => if x < a ∨ (x = a ∧ y < 0) then 1048576 else 0) = mat (fun x _ => if x < a then 1048576 else 0) from mat_ext fun x y _ _ => by simp]; exact H0⟩
      case round =>
        obtain ⟨b, rfl, hb, H'⟩ := hrel.out
        clear H0 hrel
        have H := H'
        clear H'
        by_cases hlt2 : b < 17
        · go_wp2_with (first | go_skip | ((with_reducible show wpList _ _ _ (_ :: _) _ _); (with_reducible apply wpl_storeIH); (· exact cell_int); (· rfl); (· rfl); (· rfl); (· exact H); (· (repeat (first | (with_reducible exact List.mem_cons_self) | with_reducible apply List.mem_cons_of_mem))); (· (rw [mat_sz]; omega)); (· exact mat_set _ hlt hlt2 _); (· (repeat (first | (with_reducible exact Repl.here) | with_reducible apply Repl.there))); (clear H; intro _ H); (simp only [Act.put, List.setIfInBounds_toArray, List.set_cons_zero, List.set_cons_succ])))
          go_roundw
          case rel =>
            refine ⟨b + 1, by go_num, by omega, ?_⟩
            rw [show (mat fun x y => if x < a ∨ (x = a ∧ y < b + 1) then 1048576 else 0) = mat (upd2 (fun x y => if x < a ∨ (x = a ∧ y < b) then 1048576 else 0) a b 1048576) from mat_ext fun x y _ _ => by
              show (if x < a ∨ (x = a ∧ y < b + 1) then (1048576 : Int) else 0) = if x = a ∧ y = b then 1048576 else if x < a ∨ (x = a ∧ y < b) then 1048576 else 0
              by_cases e : x = a ∧ y = b
              · obtain ⟨rfl, rfl⟩ := e; simp
              · rw [if_neg e]
                by_cases e2 : x < a ∨ (x = a ∧ y < b)
                · rw [if_pos e2, if_pos (by omega)]
                · rw [if_neg e2, if_neg (by omega)]]
            exact H
          case measure => simp [intOf]; omega
        · obtain rfl : b = 17 := by omega
          go_wp2_with (go_skip)
          go_roundw
          case rel =>
            refine ⟨a + 1, by go_num, by omega, ?_⟩
            rw [show (mat fun x y => if x < a + 1 then 1048576 else 0) = mat (fun x y => if x < a ∨ (x = a ∧ y < 17) then 1048576 else 0) from mat_ext fun x y _ hy => by
              by_cases e2 : x < a + 1
              · rw [if_pos e2, if_pos (by omega)]
              · rw [if_neg e2, if_neg (by omega)]]
            exact H
          case measure => simp [intOf]; omega
    · obtain rfl : a = 17 := by omega
      rw [show (mat fun x y => if x < 17 then 1048576 else 0) = mat (fun x y => 1048576) from mat_ext fun x y hx _ => by rw [if_pos hx]] at H
      go_wp2_with (go_skip)
      have H0 := H
      clear H
      go_loopw [6] (fun i wr => CEdges W l pc F en i wr) (fun i _ => en - (intOf i).toNat)
      case atStart => exact ⟨0, _, rfl, by omega, fun a b => by omega, rfl, H0⟩
      case round =>
        obtain ⟨k, c, rfl, hk, hb, hG, H'⟩ := hrel.out
        clear H0 hrel
        have H := H'
        clear H'
        by_cases hlt : k < en
        · have hkF : k < F.length := by rw [HL.out]; exact hlt
          have hok := HF.out F[k] (List.getElem_mem hkF)
          have hat := edgL_at F k hkF
          have hlen : k * 3 + 3 ≤ (edgL F).length := by rw [edgL_len]; omega
          rw [List.drop_eq_getElem_cons hkF, List.foldl_cons] at hG
          generalize F[k] = x at *
          have hb2 := bnd8 (x := x) hb hok.2.2.1
          obtain ⟨a, b, n⟩ := x
          obtain ⟨h1, h2, h3, h4⟩ := hok
          simp only at h1 h2 h3 h4
          have hrow : (((edgL F).drop (k * 3)).take 3).toArray = edg a b n := by rw [hat]; rfl
          obtain ⟨eb, eo, rfl, _⟩ := (HR.out _ _ (fun x hx => List.mem_cons_of_mem _ hx) H).lt (by omega)
          have HG := Lib.hid hG
          have HB2 := Lib.hid hb2
          have hbab := hb a b
          clear hG hat hkF hb hb2
          by_cases hk2 : keepE ⟨a, b, n⟩ = true
          · have hm : mayP a = true ∧ mayP b = true := by unfold keepE at hk2; simpa using hk2
            have a1 := mayP_true hm.1
            have b1 := mayP_true hm.2
            have HC := Lib.hid (cstS_yes (c := c) (e := ⟨a, b, n⟩) hk2)
            have a17 : a < 17 := by omega
            have b17 : b < 17 := by omega
            clear hm hk2
            go_wp2_with (first
                  | go_skip
                  | ((with_reducible show wpList _ _ _ (_ :: _) _ _); (with_reducible apply wpl_loadRdR row_edg); (· rfl); (· rfl); (· exact HR.out _ _ (fun x hx => by (first | exact hx | exact List.mem_cons_of_mem _ hx | exact List.mem_cons_of_mem _ (List.mem_cons_of_mem _ hx) | exact List.mem_cons_of_mem _ (List.mem_cons_of_mem _ (List.mem_cons_of_mem _ hx)))) H); (· rfl); (· exact hlen); (· decide); (· exact hrow); (simp only [Act.put, List.setIfInBounds_toArray, List.set_cons_zero, List.set_cons_succ]))
                  | ((with_reducible show wpList _ _ _ (_ :: _) _ _); (with_reducible apply wpl_allocRH row_edg); (· rfl); (· exact H); (clear H; intro px _ H); (simp only [Act.put, List.setIfInBounds_toArray, List.set_cons_zero, List.set_cons_succ]))
                  | ((with_reducible show wpList _ _ _ (_ :: _) _ _); (with_reducible apply wpl_storeRH row_edg); (· rfl); (· rfl); (· rfl); (· with_reducible exact edg_cells ..); (· exact H); (· (repeat (first | (with_reducible exact List.mem_cons_self) | with_reducible apply List.mem_cons_of_mem))); (· (simp only [edg_sz, Nat.reduceAdd, Nat.reduceLeDiff, Nat.le_refl]; done)); (· with_reducible exact edg_splice ..); (· (repeat (first | (with_reducible exact Repl.here) | with_reducible apply Repl.there))); (clear H; intro _ H); (simp only [Act.put, List.setIfInBounds_toArray, List.set_cons_zero, List.set_cons_succ]))
                  | ((with_reducible show wpList _ _ _ (_ :: _) _ _); (with_reducible apply wpl_loadCH); (· first | exact cell_party | exact cell_i8); (· rfl); (· rfl); (· exact H); (· (repeat (first | (with_reducible exact List.mem_cons_self) | with_reducible apply List.mem_cons_of_mem))); (· (with_reducible first | exact edg_g0 .. | exact edg_g1 .. | exact edg_g2 ..)); (simp only [Act.put, List.setIfInBounds_toArray, List.set_cons_zero, List.set_cons_succ])))
            refine wp_region_H_tail 17 H (by kernel_rfl) (by kernel_rfl) ?_
            simp only [List.take_succ_cons, List.take_zero, List.drop_succ_cons, List.drop_zero]
            repeat (first | go_big_quiet_skip | ((with_reducible apply wpQ_loadCH); (· first | exact cell_party | exact cell_i8); (· rfl); (· rfl); (· (repeat (first | (with_reducible exact List.mem_cons_self) | with_reducible apply List.mem_cons_of_mem))); (· (with_reducible first | exact edg_g0 .. | exact edg_g1 .. | exact edg_g2 ..)); (simp only [Act.put, List.setIfInBounds_toArray, List.set_cons_zero, List.set_cons_succ])) | ((with_reducible apply wpQ_loadCH); (· exact cell_int); (· rfl); (· rfl); (· (repeat (first | (with_reducible exact List.mem_cons_self) | with_reducible apply List.mem_cons_of_mem))); (· exact mat_get _ a17 b17); (simp only [Act.put, List.setIfInBounds_toArray, List.set_cons_zero, List.set_cons_succ])) | go_big_quiet_step (fail))
            refine wpQuiet_nil ?_
            clear H
            intro _ H
            go_wp2_with ((with_reducible show wpList _ _ _ (_ :: _) _ _); (with_reducible apply wpl_storeIH); (· exact cell_int); (· rfl); (· rfl); (· rfl); (· exact H); (· (repeat (first | (with_reducible exact List.mem_cons_self) | with_reducible apply List.mem_cons_of_mem))); (· (rw [mat_sz]; omega)); (· exact mat_set _ a17 b17 _); (· (repeat (first | (with_reducible exact Repl.here) | with_reducible apply Repl.there))); (clear H; intro _ H); (simp only [Act.put, List.setIfInBounds_toArray, List.set_cons_zero, List.set_cons_succ]))
            go_roundw
            case rel =>
              (repeat apply Exists.intro)
              refine ⟨⟨⟨k + 1, _, by go_num, by omega, HB2.out, HG.out, by rw [HC.out]; exact H.tail⟩⟩, rfl⟩
            case measure => simp [intOf]; omega
          · have HC := Lib.hid (cstS_no (c := c) (e := ⟨a, b, n⟩) (by simpa using hk2))
            have hcase : a < 1 ∨ (1 ≤ a ∧ 16 < a) ∨ (1 ≤ a ∧ a ≤ 16 ∧ b < 1) ∨ (1 ≤ a ∧ a ≤ 16 ∧ 1 ≤ b ∧ 16 < b) := by
              by_cases x1 : 1 ≤ a
              · by_cases x2 : a ≤ 16
                · by_cases x3 : 1 ≤ b
                  · by_cases x4 : b ≤ 16
                    · exact absurd (by simp [keepE, mayP, x1, x2, x3, x4]) hk2
                    · omega
                  · omega
                · omega
              · omega
            clear hk2
            rcases hcase with c1 | ⟨c1, c2⟩ | ⟨c1, c2, c3⟩ | ⟨c1, c2, c3, c4⟩
            all_goals
              go_wp2_with (first
                  | go_skip
                  | ((with_reducible show wpList _ _ _ (_ :: _) _ _); (with_reducible apply wpl_loadRdR row_edg); (· rfl); (· rfl); (· exact HR.out _ _ (fun x hx => by (first | exact hx | exact List.mem_cons_of_mem _ hx | exact List.mem_cons_of_mem _ (List.mem_cons_of_mem _ hx) | exact List.mem_cons_of_mem _ (List.mem_cons_of_mem _ (List.mem_cons_of_mem _ hx)))) H); (· rfl); (· exact hlen); (· decide); (· exact hrow); (simp only [Act.put, List.setIfInBounds_toArray, List.set_cons_zero, List.set_cons_succ]))
                  | ((with_reducible show wpList _ _ _ (_ :: _) _ _); (with_reducible apply wpl_allocRH row_edg); (· rfl); (· exact H); (clear H; intro px _ H); (simp only [Act.put, List.setIfInBounds_toArray, List.set_cons_zero, List.set_cons_succ]))
                  | ((with_reducible show wpList _ _ _ (_ :: _) _ _); (with_reducible apply wpl_storeRH row_edg); (· rfl); (· rfl); (· rfl); (· with_reducible exact edg_cells ..); (· exact H); (· (repeat (first | (with_reducible exact List.mem_cons_self) | with_reducible apply List.mem_cons_of_mem))); (· (simp only [edg_sz, Nat.reduceAdd, Nat.reduceLeDiff, Nat.le_refl]; done)); (· with_reducible exact edg_splice ..); (· (repeat (first | (with_reducible exact Repl.here) | with_reducible apply Repl.there))); (clear H; intro _ H); (simp only [Act.put, List.setIfInBounds_toArray, List.set_cons_zero, List.set_cons_succ]))
                  | ((with_reducible show wpList _ _ _ (_ :: _) _ _); (with_reducible apply wpl_loadCH); (· first | exact cell_party | exact cell_i8); (· rfl); (· rfl); (· exact H); (· (repeat (first | (with_reducible exact List.mem_cons_self) | with_reducible apply List.mem_cons_of_mem))); (· (with_reducible first | exact edg_g0 .. | exact edg_g1 .. | exact edg_g2 ..)); (simp only [Act.put, List.setIfInBounds_toArray, List.set_cons_zero, List.set_cons_succ])))
              refine ⟨?_, ?_⟩
              · first
                  | exact ⟨⟨k + 1, _, by go_num, by omega, HB2.out, HG.out, by rw [HC.out]; exact H.tail⟩⟩
                  | ((repeat apply Exists.intro); refine ⟨⟨⟨k + 1, _, by go_num, by omega, HB2.out, HG.out, by rw [HC.out]; exact H.tail⟩⟩, rfl⟩)
              · simp [intOf]; omega
        · obtain rfl : k = en := by omega
          rw [List.drop_of_length_le (by rw [HL.out]; omega)] at hG
          obtain rfl : c = cst F := hG
          clear hb
          go_wp2_with (go_skip)
          refine (RO _ _ (fun x hx => List.mem_cons_of_mem _ hx) H).mono ?_
          clear H RO
          rintro e w2 ⟨v, rfl, H⟩
          rcases E.out with ⟨tf, C, hR⟩ | ⟨hR, D, hD⟩
          · have hg : ∀ i, i < (roundOf (F.filter keepE)).length → cst F (tf i) (tf ((i + 1) % (roundOf (F.filter keepE)).length)) ≤ C (tf ((i + 1) % (roundOf (F.filter keepE)).length)) := fun i hi => cstF_edge F _ _ (hR.edge i hi)
            have hlo : ∀ a b, -128 ≤ cst F a b := cstF_ge (lo := fun _ _ => -128) F _ (fun _ _ => by omega) (fun e he => (HF.out e (List.mem_filter.1 he).1).2.2.1)
            have hhi : ∀ i, i < (roundOf (F.filter keepE)).length → cst F (tf i) (tf ((i + 1) % (roundOf (F.filter keepE)).length)) ≤ 127 := fun i hi => by
              have h1 := hg i hi
              have h2 := (HF.out _ (List.mem_filter.1 (hR.edge i hi)).1).2.2.2
              simp only at h2
              omega
            have hcheap := rsum_le (roundOf (F.filter keepE)).length hg
            have hch := hR.cheap
            generalize roundOf (F.filter keepE) = T at *
            obtain ⟨m, hm⟩ : ∃ m, T.length = m := ⟨_, rfl⟩
            rw [hm] at H hg hhi hcheap hch
            have hR1 := hR.pos
            have hR2 := hR.max
            rw [hm] at hR1 hR2
            obtain ⟨g, o, cc, rfl, _, _⟩ := OwnT.form (H.ok _ List.mem_cons_self) (by omega)
            have hcx : ∀ (i x : Nat), T[i]? = some x → ∀ w', Heap W (OwnT 33 1 (.slice (some ⟨g, o, none⟩) m cc) m (T.map pv) :: Cel pc (mat (cst F)) 76 :: l) w' → w'.cell? ⟨g, o + i, none⟩ = some (.int .u8 (x : Int)) := fun i x hx w' h => rd_party (h.ownRd List.mem_cons_self) hx
            have HC := Lib.hid hcx
            have HRR := Lib.hid (And.intro hR hm)
            have HS := Lib.hid (And.intro hcheap hch)
            have HG := Lib.hid (And.intro hlo hhi)
            clear E hcx hR hm hcheap hch hg hlo hhi
            go_wp2_with (go_skip)
            have H0 := H
            clear H
            go_loopw [9, 10] (fun v i wr => CRnd W (OwnT 33 1 (.slice (some ⟨g, o, none⟩) m cc) m (T.map pv) :: Cel pc (mat (cst F)) 76 :: l) m (fun i => cst F (tf i) (tf ((i + 1) % m))) v i wr) (fun _ i _ => m - (intOf i).toNat)
            case atStart => exact ⟨0, rfl, by omega, rfl, H0⟩
            case round =>
              obtain ⟨k, rfl, hk, rfl, H'⟩ := hrel.out
              clear H0 hrel
              have H := H'
              clear H'
              by_cases hlt : k < m
              · have hx := HRR.out.1.get k (by rw [HRR.out.2]; exact hlt)
                have hnx : (k + 1) % m < m := Nat.mod_lt _ (by omega)
                have hy := HRR.out.1.get ((k + 1) % m) (by rw [HRR.out.2]; exact hnx)
                have h0 := HRR.out.1.get 0 (by rw [HRR.out.2]; omega)
                have rx := HRR.out.1.rng k (by rw [HRR.out.2]; exact hlt)
                have ry := HRR.out.1.rng ((k + 1) % m) (by rw [HRR.out.2]; exact hnx)
                have hl0 := HRR.out.1.least k (by rw [HRR.out.2]; exact hlt)
                have hcx := HC.out _ _ hx
                have hcy := HC.out _ _ hy
                have hc0 := HC.out _ _ h0
                rw [Nat.add_zero] at hc0
                have g1 := HG.out.1 (tf k) (tf ((k + 1) % m))
                have g2 := HG.out.2 k hlt
                have hs := rsum_bnd (g := fun i => cst F (tf i) (tf ((i + 1) % m))) (lo := -128) (hi := 127) k (fun i hi => ⟨HG.out.1 _ _, HG.out.2 i (by omega)⟩)
                have HK := Lib.hid (show rsum (fun i => cst F (tf i) (tf ((i + 1) % m))) (k + 1) = rsum (fun i => cst F (tf i) (tf ((i + 1) % m))) k + cst F (tf k) (tf ((k + 1) % m)) from rfl)
                have HCC := Lib.hid (And.intro hcx (And.intro hcy hc0))
                clear hx hy h0 hcx hcy hc0
                have hmod : ((k : Int) + 1) % (m : Int) = (((k + 1) % m : Nat) : Int) := by simp
                have hgy := fun h => mat_get (cst F) (a := tf k) (b := tf ((k + 1) % m)) (by omega) h
                generalize (k + 1) % m = j at *
                have hxy := hgy (by omega)
                clear hgy
                generalize cst F (tf k) (tf j) = cv at *
                generalize rsum (fun i => cst F (tf i) (tf ((i + 1) % m))) k = sv at *
                go_wp2_with (first | go_skip | ((with_reducible show wpList _ _ _ (_ :: _) _ _); (with_reducible apply wpl_loadCell); (· exact cell_party); (· rfl); (· rfl); (· exact HCC.out.2.1 _ H); (simp only [Act.put, List.setIfInBounds_toArray, List.set_cons_zero, List.set_cons_succ])))
                have d1 : decide (((tf k : Nat) : Int) < 1) = false := by simp; omega
                have d2 : decide (((tf k : Nat) : Int) > 16) = false := by simp; omega
                have d3 : decide (((tf j : Nat) : Int) < 1) = false := by simp; omega
                have d4 : decide (((tf j : Nat) : Int) > 16) = false := by simp; omega
                have d5 : decide (((tf k : Nat) : Int) < ((tf 0 : Nat) : Int)) = false := by simp; omega
                have d5' : decide (tf k < tf 0) = false := by simp; omega
                have d6 : (cv == 1048576) = false := by simp; omega
                refine wp_region_H H (by kernel_rfl) (by kernel_rfl) ?_
                repeat (first | go_big_quiet_skip | (first | ((with_reducible apply wpQ_loadCH); (· exact cell_int); (· rfl); (· rfl); (· (repeat (first | (with_reducible exact List.mem_cons_self) | with_reducible apply List.mem_cons_of_mem))); (· exact hxy); (simp only [Act.put, List.setIfInBounds_toArray, List.set_cons_zero, List.set_cons_succ])) | ((with_reducible apply wpQ_loadCell); (· exact cell_party); (· rfl); (· rfl); (· first | exact HCC.out.1 | exact HCC.out.2.2); (simp only [Act.put, List.setIfInBounds_toArray, List.set_cons_zero, List.set_cons_succ]))) | go_big_quiet_step (fail))
                refine wpQuiet_nil ?_
                clear H
                intro _ H
                go_wp2_with (go_skip)
                have H0 := H
                clear H
                go_loopw [12] (fun i wr => CTwo W (OwnT 33 1 (.slice (some ⟨g, o, none⟩) m cc) m (T.map pv) :: Cel pc (mat (cst F)) 76 :: l) k i wr) (fun i _ => 17 - (intOf i).toNat)
                case atStart => exact ⟨0, rfl, by omega, H0⟩
                case round =>
                  obtain ⟨z, rfl, hz, H'⟩ := hrel.out
                  clear H0 hrel
                  have H := H'
                  clear H'
                  by_cases hltz : z < k
                  · have hne := HRR.out.1.inj z k hltz (by rw [HRR.out.2]; exact hlt)
                    have d7 : (((tf z : Nat) : Int) == ((tf k : Nat) : Int)) = false := by simp; omega
                    have hcz := HC.out _ _ (HRR.out.1.get z (by rw [HRR.out.2]; omega))
                    have HCZ := Lib.hid hcz
                    clear hcz hne
                    have zm : z < m := by omega
                    go_wp2_with (go_skip)
                    refine wp_region_H H (by kernel_rfl) (by kernel_rfl) ?_
                    repeat (first | go_big_quiet_skip | ((with_reducible apply wpQ_loadCell); (· exact cell_party); (· rfl); (· rfl); (· first | exact HCC.out.1 | exact HCZ.out); (simp only [Act.put, List.setIfInBounds_toArray, List.set_cons_zero, List.set_cons_succ])) | go_big_quiet_step (fail))
                    refine wpQuiet_nil ?_
                    clear H
                    intro _ H
                    go_wp2_with (go_skip)
                    refine ⟨?_, ?_⟩
                    · exact ⟨⟨z + 1, by go_num, by omega, H⟩⟩
                    · simp [intOf]; omega
                  · obtain rfl : z = k := by omega
                    have w1 : wrap64 (sv + cv) = sv + cv := IntWalk.wrap64_in _ ⟨by omega, by omega⟩
                    go_wp2_with (first
                      | go_skip
                      | ((with_reducible show wpList _ _ _ (_ :: _) _ _); (with_reducible apply wpl_loadCell); (· exact cell_party); (· rfl); (· rfl); (· exact HCC.out.1 _ H); (simp only [Act.put, List.setIfInBounds_toArray, List.set_cons_zero, List.set_cons_succ]))
                      | ((with_reducible show wpList _ _ _ (_ :: _) _ _); (with_reducible apply wpl_loadCH); (· exact cell_int); (· rfl); (· rfl); (· exact H); (· (repeat (first | (with_reducible exact List.mem_cons_self) | with_reducible apply List.mem_cons_of_mem))); (· exact hxy); (simp only [Act.put, List.setIfInBounds_toArray, List.set_cons_zero, List.set_cons_succ])))
                    refine ⟨?_, ?_⟩
                    · exact ⟨⟨z + 1, by go_num, by omega, by rw [HK.out], H⟩⟩
                    · simp [intOf]; omega
              · obtain rfl : k = m := by omega
                have hneg : rsum (fun i => cst F (tf i) (tf ((i + 1) % k))) k < 0 := by have := HS.out; omega
                generalize rsum (fun i => cst F (tf i) (tf ((i + 1) % k))) k = sv at *
                go_wp2_with (first | go_skip | ((with_reducible refine (L _ _ H).mono ?_); clear H; rintro _ _ ⟨rfl, H⟩))
                go_ret
                exact ⟨rfl, H.tail.tail⟩
          · rw [hR] at H
            obtain ⟨av, cv, rfl⟩ := OwnT.form0 (H.ok _ List.mem_cons_self)
            replace H := H.tail
            have HD := Lib.hid hD
            have HRR := Lib.hid hR
            clear E hR hD
            go_wp2_with (go_skip)
            have H0 := H
            clear H
            go_loopw [13] (fun i wr => CFw W l pc D 0 i wr) (fun i _ => 17 - (intOf i).toNat)
            case atStart => exact ⟨1, _, rfl, by omega, by omega, HD.out, H0⟩
            case round =>
              clear HD
              obtain ⟨m, c, rfl, hm1, hm, hP, H'⟩ := hrel.out
              clear H0 hrel
              have H := H'
              clear H'
              have HP := Lib.hid hP
              clear hP
              by_cases hltm : m < 17
              · go_wp2_with (go_skip)
                have H0 := H
                clear H
                go_loopw [14] (fun i wr => CFw W l pc D 1 i wr) (fun i _ => 17 - (intOf i).toNat)
                case atStart => exact ⟨1, _, rfl, by omega, by omega, HP.out, H0⟩
                case round =>
                  clear HP
                  obtain ⟨a, c, rfl, ha1, ha, hP, H'⟩ := hrel.out
                  clear H0 hrel
                  have H := H'
                  clear H'
                  have HP := Lib.hid hP
                  clear hP
                  by_cases hlta : a < 17
                  · go_wp2_with (go_skip)
                    have H0 := H
                    clear H
                    go_loopw [15] (fun i wr => CFw W l pc D 2 i wr) (fun i _ => 17 - (intOf i).toNat)
                    case atStart => exact ⟨1, _, rfl, by omega, by omega, HP.out, H0⟩
                    case round =>
                      clear HP
                      obtain ⟨b, c, rfl, hb1, hb, hP, H'⟩ := hrel.out
                      clear H0 hrel
                      have H := H'
                      clear H'
                      by_cases hltb : b < 17
                      · have HP := Lib.hid hP
                        have HP2 := Lib.hid (hP.step a m b)
                        have q1 := hP.le a m
                        have q2 := hP.le m b
                        have q3 : -614400 ≤ c a m := by have := hP.ge a m; have := hP.bnd a; have := hP.bnd m; omega
                        have q4 : -614400 ≤ c m b := by have := hP.ge m b; have := hP.bnd b; have := hP.bnd m; omega
                        have w1 : IntKind.i64.wrap (c a m + c m b) = c a m + c m b := IntWalk.i64_in _ ⟨by omega, by omega⟩
                        clear hP
                        by_cases t1 : c a m < 1048576 ∧ c m b < 1048576
                        · obtain ⟨t1, t2⟩ := t1
                          go_wp2_with (first | go_skip | ((with_reducible show wpList _ _ _ (_ :: _) _ _); (with_reducible apply wpl_loadCH); (· exact cell_int); (· rfl); (· rfl); (· exact H); (· (repeat (first | (with_reducible exact List.mem_cons_self) | with_reducible apply List.mem_cons_of_mem))); (· first | exact mat_get _ hlta hltm | exact mat_get _ hltm hltb); (simp only [Act.put, List.setIfInBounds_toArray, List.set_cons_zero, List.set_cons_succ])))
                          refine wp_region_H_tail 21 H (by kernel_rfl) (by kernel_rfl) ?_
                          simp only [List.take_succ_cons, List.take_zero, List.drop_succ_cons, List.drop_zero]
                          repeat (first | go_big_quiet_skip | ((with_reducible apply wpQ_loadCH); (· exact cell_int); (· rfl); (· rfl); (· (repeat (first | (with_reducible exact List.mem_cons_self) | with_reducible apply List.mem_cons_of_mem))); (· first | exact mat_get _ hlta hltb | exact mat_get _ hlta hltm | exact mat_get _ hltm hltb); (simp only [Act.put, List.setIfInBounds_toArray, List.set_cons_zero, List.set_cons_succ])) | go_big_quiet_step (fail))
                          refine wpQuiet_nil ?_
                          clear H
                          intro _ H
                          go_wp2_with ((with_reducible show wpList _ _ _ (_ :: _) _ _); (with_reducible apply wpl_storeIH); (· exact cell_int); (· rfl); (· rfl); (· rfl); (· exact H); (· (repeat (first | (with_reducible exact List.mem_cons_self) | with_reducible apply List.mem_cons_of_mem))); (· (rw [mat_sz]; omega)); (· exact mat_set _ hlta hltb _); (· (repeat (first | (with_reducible exact Repl.here) | with_reducible apply Repl.there))); (clear H; intro _ H); (simp only [Act.put, List.setIfInBounds_toArray, List.set_cons_zero, List.set_cons_succ]))
                          go_roundw
                          case rel => exact ⟨⟨b + 1, _, by go_num, by omega, by omega, HP2.out, H⟩⟩
                          case measure => simp [intOf]; omega
                        · have t2 : ¬ c a m < 1048576 ∨ (c a m < 1048576 ∧ ¬ c m b < 1048576) := by omega
                          clear t1
                          rcases t2 with t1 | ⟨t1, t2⟩
                          all_goals
                            go_wp2_with (first | go_skip | ((with_reducible show wpList _ _ _ (_ :: _) _ _); (with_reducible apply wpl_loadCH); (· exact cell_int); (· rfl); (· rfl); (· exact H); (· (repeat (first | (with_reducible exact List.mem_cons_self) | with_reducible apply List.mem_cons_of_mem))); (· first | exact mat_get _ hlta hltm | exact mat_get _ hltm hltb); (simp only [Act.put, List.setIfInBounds_toArray, List.set_cons_zero, List.set_cons_succ])))
                            refine ⟨?_, ?_⟩
                            · exact ⟨⟨b + 1, c, by go_num, by omega, by omega, HP.out, H⟩⟩
                            · simp [intOf]; omega
                      · obtain rfl : b = 17 := by omega
                        have HP := Lib.hid hP
                        clear hP
                        go_wp2_with (go_skip)
                        go_roundw
                        case rel => exact ⟨⟨a + 1, c, by go_num, by omega, by omega, HP.out, H⟩⟩
                        case measure => simp [intOf]; omega
                  · obtain rfl : a = 17 := by omega
                    go_wp2_with (go_skip)
                    go_roundw
                    case rel => exact ⟨⟨m + 1, c, by go_num, by omega, by omega, HP.out, H⟩⟩
                    case measure => simp [intOf]; omega
              · obtain rfl : m = 17 := by omega
                go_wp2_with (go_skip)
                have H0 := H
                clear H
                go_loopw [16] (fun i wr => CTwo W (Cel pc (mat c) 76 :: l) 17 i wr) (fun i _ => 17 - (intOf i).toNat)
                case atStart => exact ⟨1, rfl, by omega, H0⟩
                case round =>
                  obtain ⟨q, rfl, hq, H'⟩ := hrel.out
                  clear H0 hrel
                  have H := H'
                  clear H'
                  by_cases hlt : q < 17
                  · have hge : 0 ≤ c q q := by have := HP.out.ge q q; omega
                    go_wp2_with (first | go_skip | ((with_reducible show wpList _ _ _ (_ :: _) _ _); (with_reducible apply wpl_loadCH); (· exact cell_int); (· rfl); (· rfl); (· exact H); (· (repeat (first | (with_reducible exact List.mem_cons_self) | with_reducible apply List.mem_cons_of_mem))); (· exact mat_get _ hlt hlt); (simp only [Act.put, List.setIfInBounds_toArray, List.set_cons_zero, List.set_cons_succ])))
                    refine ⟨?_, ?_⟩
                    · exact ⟨⟨q + 1, by go_num, by omega, H⟩⟩
                    · simp [intOf]; omega
                  · obtain rfl : q = 17 := by omega
                    go_wp2_with (first | go_skip | ((with_reducible refine (L _ _ H).mono ?_); clear H; rintro _ _ ⟨rfl, H⟩))
                    go_ret
                    exact ⟨rfl, H.tail⟩
end
end Go.Proofs.Ytglehneaphigdaa
