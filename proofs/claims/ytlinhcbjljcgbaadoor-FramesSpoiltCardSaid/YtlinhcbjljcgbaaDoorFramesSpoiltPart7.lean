/- FramesSpoilt: part 7 of its proof: Taker. -/
import Derived.Test.YtlinhcbjljcgbaaDoorFramesSpoiltPart6
/- The document's Taker: Byte, Num. -/
namespace Go.Proofs.YtlinhcbjljcgbaaDoor
open Go.RowKit
attribute [local go_sem] Oper.semAt_some
set_option linter.unusedSimpArgs false
set_option linter.unusedVariables false
def tkr (B : Value) (E : Int) : Array Value := #[B, .int .i64 E]
section
variable (B : Value) (E : Int)
theorem tkr_sz : (tkr B E).size = 2 := rfl
theorem tkr_g0 : (tkr B E)[0]? = some (B) := rfl
theorem tkr_s0 (v : Value) : (tkr B E).setIfInBounds 0 (v) = tkr v E := rfl
theorem tkr_g1 : (tkr B E)[1]? = some (.int .i64 E) := rfl
theorem tkr_s1 (v : Int) : (tkr B E).setIfInBounds 1 (.int .i64 v) = tkr B v := rfl
end
theorem cell_sl : CellTy 22 := ⟨⟨_, Tryd.underlying22, rfl⟩, by kernel_rfl⟩
theorem cell_err : CellTy 35 := ⟨⟨_, Tryd.underlying35, rfl⟩, by kernel_rfl⟩
abbrev TkrT (p : Nat) (v : Value) (e : Int) : Thing := Cel p (tkr v e) 70
structure RkL (W : World) (l : List Thing) (zs : Bs) (n p : Nat) (v i : Value) (wr : World) : Prop where
  out : ∃ (k acc : Nat) (a : Option Addr) (c : Nat), i = .int .i64 (k : Int) ∧ v = .int .u64 (acc : Int) ∧ k ≤ 10 ∧ k ≤ zs.length ∧ acc < 128 ^ k ∧ tkFrom (10 - k) k acc (zs.drop k) = tk zs ∧ n - k ≤ c ∧ (∀ l' w', (∀ x ∈ l, x ∈ l') → Heap W l' w' → Rd w' a ((zs.drop k).map B8)) ∧ Heap W (TkrT p (.slice a (n - k) c) 0 :: l) wr
structure RkM (W : World) (B : List Thing) (m k : Nat) (v i : Value) (wr : World) : Prop where
  out : ∃ j : Nat, i = .int .i64 (j : Int) ∧ j ≤ k ∧ v = .int .u64 ((m * 128 ^ j : Nat) : Int) ∧ Heap W B wr
def TkPost (W : World) (l : List Thing) (zs : Bs) (n p : Nat) (e : Ending) (w' : World) : Prop :=
  ∃ a m c, e = .returned (.int .u64 ((tk zs).n : Int)) ∧ ((tk zs).e = 0 → m + (tk zs).h = n) ∧ Heap W (TkrT p (.slice a m c) (tk zs).e :: l) w'
section
variable {W w : World} {l : List Thing}
set_option maxRecDepth 100000
set_option maxHeartbeats 800000
theorem byte_none (p : Nat) (a : Option Addr) (c : Nat) (H : Heap W (TkrT p (.slice a 0 c) 0 :: l) w) : Calls Tryd.prog 52 #[.pointer (some ⟨p, 0, none⟩)] w fun e w' => e = .returned (.int .u8 0) ∧ Heap W (TkrT p (.slice a 0 c) 5 :: l) w' := by
  go_enter Tryd.func52, Tryd.ntmps52
  go_wp2_with (first
    | go_skip
    | ((with_reducible show wpList _ _ _ (_ :: _) _ _); (with_reducible apply wpl_loadCH); (· first | exact cell_sl | exact cell_err); (· rfl); (· rfl); (· exact H); (· (repeat (first | (with_reducible exact List.mem_cons_self) | with_reducible apply List.mem_cons_of_mem))); (· (with_reducible first | exact tkr_g0 .. | exact tkr_g1 ..)); (simp only [Act.put, List.setIfInBounds_toArray, List.set_cons_zero, List.set_cons_succ]))
    | (first | ((with_reducible show wpList _ _ _ (_ :: _) _ _); (with_reducible apply wpl_storeIH); (· exact cell_err); (· rfl); (· rfl); (· rfl); (· exact H); (· (repeat (first | (with_reducible exact List.mem_cons_self) | with_reducible apply List.mem_cons_of_mem))); (· (simp only [tkr_sz, Nat.reduceLT]; done)); (· (with_reducible first | exact tkr_s0 .. | exact tkr_s1 ..)); (· (repeat (first | (with_reducible exact Repl.here) | with_reducible apply Repl.there))); (clear H; intro _ H); (simp only [Act.put, List.setIfInBounds_toArray, List.set_cons_zero, List.set_cons_succ])) | ((with_reducible show wpList _ _ _ (_ :: _) _ _); (with_reducible apply wpl_storeBH); (· exact cell_err); (· rfl); (· rfl); (· rfl); (· exact H); (· (repeat (first | (with_reducible exact List.mem_cons_self) | with_reducible apply List.mem_cons_of_mem))); (· (simp only [tkr_sz, Nat.reduceLT]; done)); (· (with_reducible first | exact tkr_s0 .. | exact tkr_s1 ..)); (· (repeat (first | (with_reducible exact Repl.here) | with_reducible apply Repl.there))); (clear H; intro _ H); (simp only [Act.put, List.setIfInBounds_toArray, List.set_cons_zero, List.set_cons_succ])) | ((with_reducible show wpList _ _ _ (_ :: _) _ _); (with_reducible apply wpl_storeSH); (· exact cell_err); (· rfl); (· rfl); (· rfl); (· exact H); (· (repeat (first | (with_reducible exact List.mem_cons_self) | with_reducible apply List.mem_cons_of_mem))); (· (simp only [tkr_sz, Nat.reduceLT]; done)); (· (with_reducible first | exact tkr_s0 .. | exact tkr_s1 ..)); (· (repeat (first | (with_reducible exact Repl.here) | with_reducible apply Repl.there))); (clear H; intro _ H); (simp only [Act.put, List.setIfInBounds_toArray, List.set_cons_zero, List.set_cons_succ])) | ((with_reducible show wpList _ _ _ (_ :: _) _ _); (with_reducible apply wpl_storePH); (· exact cell_err); (· rfl); (· rfl); (· rfl); (· exact H); (· (repeat (first | (with_reducible exact List.mem_cons_self) | with_reducible apply List.mem_cons_of_mem))); (· (simp only [tkr_sz, Nat.reduceLT]; done)); (· (with_reducible first | exact tkr_s0 .. | exact tkr_s1 ..)); (· (repeat (first | (with_reducible exact Repl.here) | with_reducible apply Repl.there))); (clear H; intro _ H); (simp only [Act.put, List.setIfInBounds_toArray, List.set_cons_zero, List.set_cons_succ]))))
  go_ret
  exact ⟨rfl, H⟩
theorem byte_some (p b o n c m : Nat) (hn : 0 < n) (hc : n ≤ c) (RD : ∀ l' w', (∀ x ∈ l, x ∈ l') → Heap W l' w' → w'.cell? ⟨b, o, none⟩ = some (.int .u8 (m : Int))) (H : Heap W (TkrT p (.slice (some ⟨b, o, none⟩) n c) 0 :: l) w) : Calls Tryd.prog 52 #[.pointer (some ⟨p, 0, none⟩)] w fun e w' => e = .returned (.int .u8 (m : Int)) ∧ Heap W (TkrT p (.slice (cutA (some ⟨b, o, none⟩) c 1 1) (n - 1) (c - 1)) 0 :: l) w' := by
  have f1 : ((n : Int) == 0) = false := by simp; omega
  have hc0 := RD _ w (fun x hx => List.mem_cons_of_mem _ hx) H
  have hn1 : 1 ≤ n := hn
  clear RD
  go_enter Tryd.func52, Tryd.ntmps52
  go_wp2_with (first
    | go_skip
    | ((with_reducible show wpList _ _ _ (_ :: _) _ _); (with_reducible apply wpl_loadCH); (· first | exact cell_sl | exact cell_err); (· rfl); (· rfl); (· exact H); (· (repeat (first | (with_reducible exact List.mem_cons_self) | with_reducible apply List.mem_cons_of_mem))); (· (with_reducible first | exact tkr_g0 .. | exact tkr_g1 ..)); (simp only [Act.put, List.setIfInBounds_toArray, List.set_cons_zero, List.set_cons_succ]))
    | ((with_reducible show wpList _ _ _ (_ :: _) _ _); (with_reducible apply wpl_loadCell cell_byte); (· rfl); (· rfl); (· exact hc0); (simp only [Act.put, List.setIfInBounds_toArray, List.set_cons_zero, List.set_cons_succ]))
    | ((with_reducible show wpList _ _ _ (_ :: _) _ _); (with_reducible apply wpl_cut1 slB); (· rfl); (· rfl); (· exact hn1); (simp only [Act.put, List.setIfInBounds_toArray, List.set_cons_zero, List.set_cons_succ]))
    | (first | ((with_reducible show wpList _ _ _ (_ :: _) _ _); (with_reducible apply wpl_storeIH); (· exact cell_sl); (· rfl); (· rfl); (· rfl); (· exact H); (· (repeat (first | (with_reducible exact List.mem_cons_self) | with_reducible apply List.mem_cons_of_mem))); (· (simp only [tkr_sz, Nat.reduceLT]; done)); (· (with_reducible first | exact tkr_s0 .. | exact tkr_s1 ..)); (· (repeat (first | (with_reducible exact Repl.here) | with_reducible apply Repl.there))); (clear H; intro _ H); (simp only [Act.put, List.setIfInBounds_toArray, List.set_cons_zero, List.set_cons_succ])) | ((with_reducible show wpList _ _ _ (_ :: _) _ _); (with_reducible apply wpl_storeBH); (· exact cell_sl); (· rfl); (· rfl); (· rfl); (· exact H); (· (repeat (first | (with_reducible exact List.mem_cons_self) | with_reducible apply List.mem_cons_of_mem))); (· (simp only [tkr_sz, Nat.reduceLT]; done)); (· (with_reducible first | exact tkr_s0 .. | exact tkr_s1 ..)); (· (repeat (first | (with_reducible exact Repl.here) | with_reducible apply Repl.there))); (clear H; intro _ H); (simp only [Act.put, List.setIfInBounds_toArray, List.set_cons_zero, List.set_cons_succ])) | ((with_reducible show wpList _ _ _ (_ :: _) _ _); (with_reducible apply wpl_storeSH); (· exact cell_sl); (· rfl); (· rfl); (· rfl); (· exact H); (· (repeat (first | (with_reducible exact List.mem_cons_self) | with_reducible apply List.mem_cons_of_mem))); (· (simp only [tkr_sz, Nat.reduceLT]; done)); (· (with_reducible first | exact tkr_s0 .. | exact tkr_s1 ..)); (· (repeat (first | (with_reducible exact Repl.here) | with_reducible apply Repl.there))); (clear H; intro _ H); (simp only [Act.put, List.setIfInBounds_toArray, List.set_cons_zero, List.set_cons_succ])) | ((with_reducible show wpList _ _ _ (_ :: _) _ _); (with_reducible apply wpl_storePH); (· exact cell_sl); (· rfl); (· rfl); (· rfl); (· exact H); (· (repeat (first | (with_reducible exact List.mem_cons_self) | with_reducible apply List.mem_cons_of_mem))); (· (simp only [tkr_sz, Nat.reduceLT]; done)); (· (with_reducible first | exact tkr_s0 .. | exact tkr_s1 ..)); (· (repeat (first | (with_reducible exact Repl.here) | with_reducible apply Repl.there))); (clear H; intro _ H); (simp only [Act.put, List.setIfInBounds_toArray, List.set_cons_zero, List.set_cons_succ]))))
  go_ret
  exact ⟨rfl, H⟩
theorem tkNum_H (p : Nat) (a0 : Option Addr) (n c0 : Nat) (zs : Bs) (hn : zs.length = n) (hl : n ≤ 1000000) (hc : n ≤ c0) (R : RdE W l a0 zs) (H : Heap W (TkrT p (.slice a0 n c0) 0 :: l) w) : Calls Tryd.prog 45 #[.pointer (some ⟨p, 0, none⟩)] w (TkPost W l zs n p) := by
  have HN := Lib.hid hn
  clear hn
  go_enter Tryd.func45, Tryd.ntmps45
  go_wp2_with (go_skip)
  go_loopw [3, 4] (RkL W l zs n p) (fun _ i _ => 10 - (intOf i).toNat)
  case atStart => exact ⟨⟨0, 0, a0, c0, rfl, rfl, by omega, by omega, by omega, rfl, by omega, by simpa using R, by simpa using H⟩⟩
  case round =>
    obtain ⟨k, acc, a, c, rfl, rfl, hk, hkl, hacc, htk, hcc, hrd, H'⟩ := hrel.out
    clear H hrel R
    have H := H'
    clear H'
    by_cases hk10 : k < 10
    · by_cases hkn : k < n
      · have hd : zs.drop k = zs[k]'(by have := HN.out; omega) :: zs.drop (k + 1) := List.drop_eq_getElem_cons _
        generalize zs[k]'(by have := HN.out; omega) = x at hd
        have hm := x.isLt
        rw [hd, List.map_cons] at hrd
        obtain ⟨g, o, rfl, _⟩ := (hrd _ wr (fun y hy => List.mem_cons_of_mem _ hy) H).lt (by simp)
        have BY := byte_some (W := W) (l := l) (w := wr) p g o (n - k) c x.toNat (by omega) hcc (fun l' w' hs H' => by
          have h0 := hrd l' w' hs H'
          have := h0.get (i := 0) (by simp)
          rw [Nat.add_zero] at this
          exact this) H
        have HRD := Lib.hid (show ∀ l' w', (∀ x ∈ l, x ∈ l') → Heap W l' w' → Rd w' (cutA (some ⟨g, o, none⟩) c 1 1) ((zs.drop (k + 1)).map B8) from fun l' w' hs H' => by
          have := rdCut (zs := x :: zs.drop (k + 1)) (hrd l' w' hs H') c 1 (n - k) hcc
          rw [List.drop_one, List.tail_cons, List.take_of_length_le (by rw [List.length_drop, HN.out]; omega)] at this
          exact this)
        generalize hmx : x.toNat = m at BY hm
        rw [hd, show 10 - k = (9 - k) + 1 by omega, tkFrom, hmx] at htk
        clear hd H hrd hmx
        go_wp2_with (go_skip)
        refine BY.mono ?_
        clear BY
        rintro e w1 ⟨rfl, H⟩
        by_cases hA : k = 9 ∧ 1 < m
        · rw [if_pos hA] at htk
          have f1 : ((k : Int) == 9) = true := by simp; omega
          have f2 : decide ((m : Int) > 1) = true := by simp; omega
          have f3 : decide (1 < (m : Int)) = true := by simp; omega
          have HTK := Lib.hid htk
          clear htk hA
          go_wp2_with (first
            | go_skip
            | ((with_reducible show wpList _ _ _ (_ :: _) _ _); (with_reducible apply wpl_loadCH); (· first | exact cell_sl | exact cell_err); (· rfl); (· rfl); (· exact H); (· (repeat (first | (with_reducible exact List.mem_cons_self) | with_reducible apply List.mem_cons_of_mem))); (· (with_reducible first | exact tkr_g0 .. | exact tkr_g1 ..)); (simp only [Act.put, List.setIfInBounds_toArray, List.set_cons_zero, List.set_cons_succ]))
            | (first | ((with_reducible show wpList _ _ _ (_ :: _) _ _); (with_reducible apply wpl_storeIH); (· exact cell_err); (· rfl); (· rfl); (· rfl); (· exact H); (· (repeat (first | (with_reducible exact List.mem_cons_self) | with_reducible apply List.mem_cons_of_mem))); (· (simp only [tkr_sz, Nat.reduceLT]; done)); (· (with_reducible first | exact tkr_s0 .. | exact tkr_s1 ..)); (· (repeat (first | (with_reducible exact Repl.here) | with_reducible apply Repl.there))); (clear H; intro _ H); (simp only [Act.put, List.setIfInBounds_toArray, List.set_cons_zero, List.set_cons_succ])) | ((with_reducible show wpList _ _ _ (_ :: _) _ _); (with_reducible apply wpl_storeBH); (· exact cell_err); (· rfl); (· rfl); (· rfl); (· exact H); (· (repeat (first | (with_reducible exact List.mem_cons_self) | with_reducible apply List.mem_cons_of_mem))); (· (simp only [tkr_sz, Nat.reduceLT]; done)); (· (with_reducible first | exact tkr_s0 .. | exact tkr_s1 ..)); (· (repeat (first | (with_reducible exact Repl.here) | with_reducible apply Repl.there))); (clear H; intro _ H); (simp only [Act.put, List.setIfInBounds_toArray, List.set_cons_zero, List.set_cons_succ])) | ((with_reducible show wpList _ _ _ (_ :: _) _ _); (with_reducible apply wpl_storeSH); (· exact cell_err); (· rfl); (· rfl); (· rfl); (· exact H); (· (repeat (first | (with_reducible exact List.mem_cons_self) | with_reducible apply List.mem_cons_of_mem))); (· (simp only [tkr_sz, Nat.reduceLT]; done)); (· (with_reducible first | exact tkr_s0 .. | exact tkr_s1 ..)); (· (repeat (first | (with_reducible exact Repl.here) | with_reducible apply Repl.there))); (clear H; intro _ H); (simp only [Act.put, List.setIfInBounds_toArray, List.set_cons_zero, List.set_cons_succ])) | ((with_reducible show wpList _ _ _ (_ :: _) _ _); (with_reducible apply wpl_storePH); (· exact cell_err); (· rfl); (· rfl); (· rfl); (· exact H); (· (repeat (first | (with_reducible exact List.mem_cons_self) | with_reducible apply List.mem_cons_of_mem))); (· (simp only [tkr_sz, Nat.reduceLT]; done)); (· (with_reducible first | exact tkr_s0 .. | exact tkr_s1 ..)); (· (repeat (first | (with_reducible exact Repl.here) | with_reducible apply Repl.there))); (clear H; intro _ H); (simp only [Act.put, List.setIfInBounds_toArray, List.set_cons_zero, List.set_cons_succ]))))
          go_ret
          exact ⟨_, _, _, by rw [← HTK.out]; rfl, fun h => by rw [← HTK.out] at h; exact absurd h (by decide), by rw [← HTK.out]; exact H⟩
        · rw [if_neg hA] at htk
          have HA := Lib.hid hA
          have HTK := Lib.hid htk
          clear htk hA
          have hs1 : m % 128 * 128 ^ k ≤ 127 * 128 ^ k := Nat.mul_le_mul_right _ (by omega)
          have hs : acc + m % 128 * 128 ^ k < 18446744073709551616 := by
            have hA := HA.out
            by_cases h9 : k = 9
            · subst h9
              have e9 : (128 : Nat) ^ 9 = 9223372036854775808 := by decide
              omega
            · have hp8 : 128 ^ k ≤ 128 ^ 8 := Nat.pow_le_pow_right (by omega) (by omega)
              have e8 : (128 : Nat) ^ 8 = 72057594037927936 := by decide
              omega
          have HS := Lib.hid (And.intro hs (And.intro hs1 hacc))
          clear hs hs1 hacc
          by_cases h9 : k = 9
          · have f1 : ((k : Int) == 9) = true := by simp; omega
            have f2 : decide ((m : Int) > 1) = false := by have := HA.out; simp; omega
            have f3 : decide (1 < (m : Int)) = false := by have := HA.out; simp; omega
            have f6 : decide ((k : Int) > 0) = true := by simp; omega
            have f7 : decide (0 < (k : Int)) = true := by simp; omega
            have f8 : decide (0 < k) = true := by simp; omega
            by_cases hm0 : m = 0
            · have f5 : ((m : Int) == 0) = true := by simp; omega
              have HZ := Lib.hid (And.intro (show m < 128 by omega) (And.intro hm0 (show 0 < k by omega)))
              clear hm0 h9
              go_wp2_with (first
            | go_skip
            | ((with_reducible show wpList _ _ _ (_ :: _) _ _); (with_reducible apply wpl_loadCH); (· first | exact cell_sl | exact cell_err); (· rfl); (· rfl); (· exact H); (· (repeat (first | (with_reducible exact List.mem_cons_self) | with_reducible apply List.mem_cons_of_mem))); (· (with_reducible first | exact tkr_g0 .. | exact tkr_g1 ..)); (simp only [Act.put, List.setIfInBounds_toArray, List.set_cons_zero, List.set_cons_succ]))
            | (first | ((with_reducible show wpList _ _ _ (_ :: _) _ _); (with_reducible apply wpl_storeIH); (· exact cell_err); (· rfl); (· rfl); (· rfl); (· exact H); (· (repeat (first | (with_reducible exact List.mem_cons_self) | with_reducible apply List.mem_cons_of_mem))); (· (simp only [tkr_sz, Nat.reduceLT]; done)); (· (with_reducible first | exact tkr_s0 .. | exact tkr_s1 ..)); (· (repeat (first | (with_reducible exact Repl.here) | with_reducible apply Repl.there))); (clear H; intro _ H); (simp only [Act.put, List.setIfInBounds_toArray, List.set_cons_zero, List.set_cons_succ])) | ((with_reducible show wpList _ _ _ (_ :: _) _ _); (with_reducible apply wpl_storeBH); (· exact cell_err); (· rfl); (· rfl); (· rfl); (· exact H); (· (repeat (first | (with_reducible exact List.mem_cons_self) | with_reducible apply List.mem_cons_of_mem))); (· (simp only [tkr_sz, Nat.reduceLT]; done)); (· (with_reducible first | exact tkr_s0 .. | exact tkr_s1 ..)); (· (repeat (first | (with_reducible exact Repl.here) | with_reducible apply Repl.there))); (clear H; intro _ H); (simp only [Act.put, List.setIfInBounds_toArray, List.set_cons_zero, List.set_cons_succ])) | ((with_reducible show wpList _ _ _ (_ :: _) _ _); (with_reducible apply wpl_storeSH); (· exact cell_err); (· rfl); (· rfl); (· rfl); (· exact H); (· (repeat (first | (with_reducible exact List.mem_cons_self) | with_reducible apply List.mem_cons_of_mem))); (· (simp only [tkr_sz, Nat.reduceLT]; done)); (· (with_reducible first | exact tkr_s0 .. | exact tkr_s1 ..)); (· (repeat (first | (with_reducible exact Repl.here) | with_reducible apply Repl.there))); (clear H; intro _ H); (simp only [Act.put, List.setIfInBounds_toArray, List.set_cons_zero, List.set_cons_succ])) | ((with_reducible show wpList _ _ _ (_ :: _) _ _); (with_reducible apply wpl_storePH); (· exact cell_err); (· rfl); (· rfl); (· rfl); (· exact H); (· (repeat (first | (with_reducible exact List.mem_cons_self) | with_reducible apply List.mem_cons_of_mem))); (· (simp only [tkr_sz, Nat.reduceLT]; done)); (· (with_reducible first | exact tkr_s0 .. | exact tkr_s1 ..)); (· (repeat (first | (with_reducible exact Repl.here) | with_reducible apply Repl.there))); (clear H; intro _ H); (simp only [Act.put, List.setIfInBounds_toArray, List.set_cons_zero, List.set_cons_succ]))))
              go_ret
              have e1 := HTK.out
              rw [if_pos HZ.out.1, if_pos HZ.out.2] at e1
              exact ⟨_, _, _, by rw [← e1]; rfl, fun h => by rw [← e1] at h; exact absurd h (by decide), by rw [← e1]; exact H⟩
            · have f5 : ((m : Int) == 0) = false := by simp; omega
              have HZ := Lib.hid (show ¬ (m = 0 ∧ 0 < k) by omega)
              clear hm0 h9
              go_wp2_with (first
            | go_skip
            | ((with_reducible show wpList _ _ _ (_ :: _) _ _); (with_reducible apply wpl_loadCH); (· first | exact cell_sl | exact cell_err); (· rfl); (· rfl); (· exact H); (· (repeat (first | (with_reducible exact List.mem_cons_self) | with_reducible apply List.mem_cons_of_mem))); (· (with_reducible first | exact tkr_g0 .. | exact tkr_g1 ..)); (simp only [Act.put, List.setIfInBounds_toArray, List.set_cons_zero, List.set_cons_succ]))
            | (first | ((with_reducible show wpList _ _ _ (_ :: _) _ _); (with_reducible apply wpl_storeIH); (· exact cell_err); (· rfl); (· rfl); (· rfl); (· exact H); (· (repeat (first | (with_reducible exact List.mem_cons_self) | with_reducible apply List.mem_cons_of_mem))); (· (simp only [tkr_sz, Nat.reduceLT]; done)); (· (with_reducible first | exact tkr_s0 .. | exact tkr_s1 ..)); (· (repeat (first | (with_reducible exact Repl.here) | with_reducible apply Repl.there))); (clear H; intro _ H); (simp only [Act.put, List.setIfInBounds_toArray, List.set_cons_zero, List.set_cons_succ])) | ((with_reducible show wpList _ _ _ (_ :: _) _ _); (with_reducible apply wpl_storeBH); (· exact cell_err); (· rfl); (· rfl); (· rfl); (· exact H); (· (repeat (first | (with_reducible exact List.mem_cons_self) | with_reducible apply List.mem_cons_of_mem))); (· (simp only [tkr_sz, Nat.reduceLT]; done)); (· (with_reducible first | exact tkr_s0 .. | exact tkr_s1 ..)); (· (repeat (first | (with_reducible exact Repl.here) | with_reducible apply Repl.there))); (clear H; intro _ H); (simp only [Act.put, List.setIfInBounds_toArray, List.set_cons_zero, List.set_cons_succ])) | ((with_reducible show wpList _ _ _ (_ :: _) _ _); (with_reducible apply wpl_storeSH); (· exact cell_err); (· rfl); (· rfl); (· rfl); (· exact H); (· (repeat (first | (with_reducible exact List.mem_cons_self) | with_reducible apply List.mem_cons_of_mem))); (· (simp only [tkr_sz, Nat.reduceLT]; done)); (· (with_reducible first | exact tkr_s0 .. | exact tkr_s1 ..)); (· (repeat (first | (with_reducible exact Repl.here) | with_reducible apply Repl.there))); (clear H; intro _ H); (simp only [Act.put, List.setIfInBounds_toArray, List.set_cons_zero, List.set_cons_succ])) | ((with_reducible show wpList _ _ _ (_ :: _) _ _); (with_reducible apply wpl_storePH); (· exact cell_err); (· rfl); (· rfl); (· rfl); (· exact H); (· (repeat (first | (with_reducible exact List.mem_cons_self) | with_reducible apply List.mem_cons_of_mem))); (· (simp only [tkr_sz, Nat.reduceLT]; done)); (· (with_reducible first | exact tkr_s0 .. | exact tkr_s1 ..)); (· (repeat (first | (with_reducible exact Repl.here) | with_reducible apply Repl.there))); (clear H; intro _ H); (simp only [Act.put, List.setIfInBounds_toArray, List.set_cons_zero, List.set_cons_succ]))))
              go_loopw [6, 7] (RkM W (TkrT p (.slice (cutA (some ⟨g, o, none⟩) c 1 1) (n - k - 1) (c - 1)) 0 :: l) (m % 128) k) (fun _ i _ => k - (intOf i).toNat)
              case atStart => exact ⟨⟨0, rfl, by omega, by simp, H⟩⟩
              case round =>
                obtain ⟨j, rfl, hj, rfl, H'⟩ := hrel.out
                clear H hrel
                have H := H'
                clear H'
                by_cases hjk : j < k
                · have hmul : ∀ z : Int, z = ((m % 128 * 128 ^ j : Nat) : Int) → IntKind.u64.wrap (z * 128) = ((m % 128 * 128 ^ (j + 1) : Nat) : Int) := fun z hz => by
                    have e1 : m % 128 * 128 ^ (j + 1) = m % 128 * 128 ^ j * 128 := by rw [Nat.pow_succ, Nat.mul_assoc]
                    have e2 : m % 128 * 128 ^ (j + 1) ≤ m % 128 * 128 ^ k := Nat.mul_le_mul_left _ (Nat.pow_le_pow_right (by omega) (by omega))
                    have := HS.out.1
                    rw [hz, IntKind.wrap_u64, e1, Int.natCast_mul]
                    rw [e1] at e2
                    omega
                  have HMUL := Lib.hid hmul
                  obtain ⟨y, hy⟩ : ∃ y, m % 128 * 128 ^ j = y := ⟨_, rfl⟩
                  have HY := Lib.hid hy
                  rw [hy]
                  clear hmul hy
                  go_wp2_with (go_skip)
                  refine ⟨?_, ?_⟩
                  · exact ⟨⟨j + 1, by go_num, by omega, by first | rw [HMUL.out _ (by rw [HY.out])] | (rw [← HMUL.out _ (by rw [HY.out]), IntKind.wrap_u64]), H⟩⟩
                  · simp [intOf]; omega
                · obtain rfl : j = k := by omega
                  have hsum : ((acc : Int) + ((m % 128 * 128 ^ j : Nat) : Int)) % 18446744073709551616 = ((acc + m % 128 * 128 ^ j : Nat) : Int) := by
                    have := HS.out.1
                    omega
                  have HSUM := Lib.hid hsum
                  obtain ⟨y, hy⟩ : ∃ y, m % 128 * 128 ^ j = y := ⟨_, rfl⟩
                  have hyb : acc + y < 18446744073709551616 := by rw [← hy]; exact HS.out.1
                  have HY := Lib.hid hy
                  rw [hy]
                  clear hsum hy
                  by_cases hlt : m < 128
                  · have f9 : decide ((m : Int) < 128) = true := by simp; omega
                    have HO := Lib.hid hlt
                    clear hlt
                    go_wp2_with (go_skip)
                    go_ret
                    have e1 := HTK.out
                    rw [if_pos HO.out, if_neg HZ.out, show m * 128 ^ j = y by rw [← HY.out, Nat.mod_eq_of_lt HO.out]] at e1
                    exact ⟨_, _, _, by rw [← e1]; rfl, fun _ => by rw [← e1]; show n - j - 1 + (j + 1) = n; omega, by rw [← e1]; exact H⟩
                  · have f9 : decide ((m : Int) < 128) = false := by simp; omega
                    have HO := Lib.hid (And.intro hlt hm)
                    clear hlt
                    go_wp2_with (go_skip)
                    refine ⟨?_, ?_⟩
                    · have e1 := HTK.out
                      rw [if_neg HO.out.1, show m - 128 = m % 128 by have := HO.out; omega, HY.out] at e1
                      refine ⟨⟨j + 1, acc + y, cutA (some ⟨g, o, none⟩) c 1 1, c - 1, by go_num, by go_num, by omega, by rw [HN.out]; omega, ?_, ?_, by omega, HRD.out, by rw [show n - (j + 1) = n - j - 1 by omega]; exact H⟩⟩
                      · have := HS.out.2
                        have h2 := HS.out.2.1
                        rw [Nat.pow_succ]
                        rw [← HY.out]; omega
                      · rw [show 10 - (j + 1) = 9 - j by omega]
                        exact e1
                    · simp [intOf]; omega
          · have f1 : ((k : Int) == 9) = false := by simp; omega
            clear h9
            by_cases hk0 : 0 < k
            · have f6 : decide ((k : Int) > 0) = true := by simp; omega
              have f7 : decide (0 < (k : Int)) = true := by simp; omega
              have f8 : decide (0 < k) = true := by simp; omega
              by_cases hm0 : m = 0
              · have f5 : ((m : Int) == 0) = true := by simp; omega
                have HZ := Lib.hid (And.intro (show m < 128 by omega) (And.intro hm0 hk0))
                clear hm0 hk0
                go_wp2_with (first
            | go_skip
            | ((with_reducible show wpList _ _ _ (_ :: _) _ _); (with_reducible apply wpl_loadCH); (· first | exact cell_sl | exact cell_err); (· rfl); (· rfl); (· exact H); (· (repeat (first | (with_reducible exact List.mem_cons_self) | with_reducible apply List.mem_cons_of_mem))); (· (with_reducible first | exact tkr_g0 .. | exact tkr_g1 ..)); (simp only [Act.put, List.setIfInBounds_toArray, List.set_cons_zero, List.set_cons_succ]))
            | (first | ((with_reducible show wpList _ _ _ (_ :: _) _ _); (with_reducible apply wpl_storeIH); (· exact cell_err); (· rfl); (· rfl); (· rfl); (· exact H); (· (repeat (first | (with_reducible exact List.mem_cons_self) | with_reducible apply List.mem_cons_of_mem))); (· (simp only [tkr_sz, Nat.reduceLT]; done)); (· (with_reducible first | exact tkr_s0 .. | exact tkr_s1 ..)); (· (repeat (first | (with_reducible exact Repl.here) | with_reducible apply Repl.there))); (clear H; intro _ H); (simp only [Act.put, List.setIfInBounds_toArray, List.set_cons_zero, List.set_cons_succ])) | ((with_reducible show wpList _ _ _ (_ :: _) _ _); (with_reducible apply wpl_storeBH); (· exact cell_err); (· rfl); (· rfl); (· rfl); (· exact H); (· (repeat (first | (with_reducible exact List.mem_cons_self) | with_reducible apply List.mem_cons_of_mem))); (· (simp only [tkr_sz, Nat.reduceLT]; done)); (· (with_reducible first | exact tkr_s0 .. | exact tkr_s1 ..)); (· (repeat (first | (with_reducible exact Repl.here) | with_reducible apply Repl.there))); (clear H; intro _ H); (simp only [Act.put, List.setIfInBounds_toArray, List.set_cons_zero, List.set_cons_succ])) | ((with_reducible show wpList _ _ _ (_ :: _) _ _); (with_reducible apply wpl_storeSH); (· exact cell_err); (· rfl); (· rfl); (· rfl); (· exact H); (· (repeat (first | (with_reducible exact List.mem_cons_self) | with_reducible apply List.mem_cons_of_mem))); (· (simp only [tkr_sz, Nat.reduceLT]; done)); (· (with_reducible first | exact tkr_s0 .. | exact tkr_s1 ..)); (· (repeat (first | (with_reducible exact Repl.here) | with_reducible apply Repl.there))); (clear H; intro _ H); (simp only [Act.put, List.setIfInBounds_toArray, List.set_cons_zero, List.set_cons_succ])) | ((with_reducible show wpList _ _ _ (_ :: _) _ _); (with_reducible apply wpl_storePH); (· exact cell_err); (· rfl); (· rfl); (· rfl); (· exact H); (· (repeat (first | (with_reducible exact List.mem_cons_self) | with_reducible apply List.mem_cons_of_mem))); (· (simp only [tkr_sz, Nat.reduceLT]; done)); (· (with_reducible first | exact tkr_s0 .. | exact tkr_s1 ..)); (· (repeat (first | (with_reducible exact Repl.here) | with_reducible apply Repl.there))); (clear H; intro _ H); (simp only [Act.put, List.setIfInBounds_toArray, List.set_cons_zero, List.set_cons_succ]))))
                go_ret
                have e1 := HTK.out
                rw [if_pos HZ.out.1, if_pos HZ.out.2] at e1
                exact ⟨_, _, _, by rw [← e1]; rfl, fun h => by rw [← e1] at h; exact absurd h (by decide), by rw [← e1]; exact H⟩
              · have f5 : ((m : Int) == 0) = false := by simp; omega
                have HZ := Lib.hid (show ¬ (m = 0 ∧ 0 < k) by omega)
                clear hm0 hk0
                go_wp2_with (first
            | go_skip
            | ((with_reducible show wpList _ _ _ (_ :: _) _ _); (with_reducible apply wpl_loadCH); (· first | exact cell_sl | exact cell_err); (· rfl); (· rfl); (· exact H); (· (repeat (first | (with_reducible exact List.mem_cons_self) | with_reducible apply List.mem_cons_of_mem))); (· (with_reducible first | exact tkr_g0 .. | exact tkr_g1 ..)); (simp only [Act.put, List.setIfInBounds_toArray, List.set_cons_zero, List.set_cons_succ]))
            | (first | ((with_reducible show wpList _ _ _ (_ :: _) _ _); (with_reducible apply wpl_storeIH); (· exact cell_err); (· rfl); (· rfl); (· rfl); (· exact H); (· (repeat (first | (with_reducible exact List.mem_cons_self) | with_reducible apply List.mem_cons_of_mem))); (· (simp only [tkr_sz, Nat.reduceLT]; done)); (· (with_reducible first | exact tkr_s0 .. | exact tkr_s1 ..)); (· (repeat (first | (with_reducible exact Repl.here) | with_reducible apply Repl.there))); (clear H; intro _ H); (simp only [Act.put, List.setIfInBounds_toArray, List.set_cons_zero, List.set_cons_succ])) | ((with_reducible show wpList _ _ _ (_ :: _) _ _); (with_reducible apply wpl_storeBH); (· exact cell_err); (· rfl); (· rfl); (· rfl); (· exact H); (· (repeat (first | (with_reducible exact List.mem_cons_self) | with_reducible apply List.mem_cons_of_mem))); (· (simp only [tkr_sz, Nat.reduceLT]; done)); (· (with_reducible first | exact tkr_s0 .. | exact tkr_s1 ..)); (· (repeat (first | (with_reducible exact Repl.here) | with_reducible apply Repl.there))); (clear H; intro _ H); (simp only [Act.put, List.setIfInBounds_toArray, List.set_cons_zero, List.set_cons_succ])) | ((with_reducible show wpList _ _ _ (_ :: _) _ _); (with_reducible apply wpl_storeSH); (· exact cell_err); (· rfl); (· rfl); (· rfl); (· exact H); (· (repeat (first | (with_reducible exact List.mem_cons_self) | with_reducible apply List.mem_cons_of_mem))); (· (simp only [tkr_sz, Nat.reduceLT]; done)); (· (with_reducible first | exact tkr_s0 .. | exact tkr_s1 ..)); (· (repeat (first | (with_reducible exact Repl.here) | with_reducible apply Repl.there))); (clear H; intro _ H); (simp only [Act.put, List.setIfInBounds_toArray, List.set_cons_zero, List.set_cons_succ])) | ((with_reducible show wpList _ _ _ (_ :: _) _ _); (with_reducible apply wpl_storePH); (· exact cell_err); (· rfl); (· rfl); (· rfl); (· exact H); (· (repeat (first | (with_reducible exact List.mem_cons_self) | with_reducible apply List.mem_cons_of_mem))); (· (simp only [tkr_sz, Nat.reduceLT]; done)); (· (with_reducible first | exact tkr_s0 .. | exact tkr_s1 ..)); (· (repeat (first | (with_reducible exact Repl.here) | with_reducible apply Repl.there))); (clear H; intro _ H); (simp only [Act.put, List.setIfInBounds_toArray, List.set_cons_zero, List.set_cons_succ]))))
                go_loopw [6, 7] (RkM W (TkrT p (.slice (cutA (some ⟨g, o, none⟩) c 1 1) (n - k - 1) (c - 1)) 0 :: l) (m % 128) k) (fun _ i _ => k - (intOf i).toNat)
                case atStart => exact ⟨⟨0, rfl, by omega, by simp, H⟩⟩
                case round =>
                  obtain ⟨j, rfl, hj, rfl, H'⟩ := hrel.out
                  clear H hrel
                  have H := H'
                  clear H'
                  by_cases hjk : j < k
                  · have hmul : ∀ z : Int, z = ((m % 128 * 128 ^ j : Nat) : Int) → IntKind.u64.wrap (z * 128) = ((m % 128 * 128 ^ (j + 1) : Nat) : Int) := fun z hz => by
                      have e1 : m % 128 * 128 ^ (j + 1) = m % 128 * 128 ^ j * 128 := by rw [Nat.pow_succ, Nat.mul_assoc]
                      have e2 : m % 128 * 128 ^ (j + 1) ≤ m % 128 * 128 ^ k := Nat.mul_le_mul_left _ (Nat.pow_le_pow_right (by omega) (by omega))
                      have := HS.out.1
                      rw [hz, IntKind.wrap_u64, e1, Int.natCast_mul]
                      rw [e1] at e2
                      omega
                    have HMUL := Lib.hid hmul
                    obtain ⟨y, hy⟩ : ∃ y, m % 128 * 128 ^ j = y := ⟨_, rfl⟩
                    have HY := Lib.hid hy
                    rw [hy]
                    clear hmul hy
                    go_wp2_with (go_skip)
                    refine ⟨?_, ?_⟩
                    · exact ⟨⟨j + 1, by go_num, by omega, by first | rw [HMUL.out _ (by rw [HY.out])] | (rw [← HMUL.out _ (by rw [HY.out]), IntKind.wrap_u64]), H⟩⟩
                    · simp [intOf]; omega
                  · obtain rfl : j = k := by omega
                    have hsum : ((acc : Int) + ((m % 128 * 128 ^ j : Nat) : Int)) % 18446744073709551616 = ((acc + m % 128 * 128 ^ j : Nat) : Int) := by
                      have := HS.out.1
                      omega
                    have HSUM := Lib.hid hsum
                    obtain ⟨y, hy⟩ : ∃ y, m % 128 * 128 ^ j = y := ⟨_, rfl⟩
                    have hyb : acc + y < 18446744073709551616 := by rw [← hy]; exact HS.out.1
                    have HY := Lib.hid hy
                    rw [hy]
                    clear hsum hy
                    by_cases hlt : m < 128
                    · have f9 : decide ((m : Int) < 128) = true := by simp; omega
                      have HO := Lib.hid hlt
                      clear hlt
                      go_wp2_with (go_skip)
                      go_ret
                      have e1 := HTK.out
                      rw [if_pos HO.out, if_neg HZ.out, show m * 128 ^ j = y by rw [← HY.out, Nat.mod_eq_of_lt HO.out]] at e1
                      exact ⟨_, _, _, by rw [← e1]; rfl, fun _ => by rw [← e1]; show n - j - 1 + (j + 1) = n; omega, by rw [← e1]; exact H⟩
                    · have f9 : decide ((m : Int) < 128) = false := by simp; omega
                      have HO := Lib.hid (And.intro hlt hm)
                      clear hlt
                      go_wp2_with (go_skip)
                      refine ⟨?_, ?_⟩
                      · have e1 := HTK.out
                        rw [if_neg HO.out.1, show m - 128 = m % 128 by have := HO.out; omega, HY.out] at e1
                        refine ⟨⟨j + 1, acc + y, cutA (some ⟨g, o, none⟩) c 1 1, c - 1, by go_num, by go_num, by omega, by rw [HN.out]; omega, ?_, ?_, by omega, HRD.out, by rw [show n - (j + 1) = n - j - 1 by omega]; exact H⟩⟩
                        · have := HS.out.2
                          have h2 := HS.out.2.1
                          rw [Nat.pow_succ]
                          rw [← HY.out]; omega
                        · rw [show 10 - (j + 1) = 9 - j by omega]
                          exact e1
                      · simp [intOf]; omega
            · have f6 : decide ((k : Int) > 0) = false := by simp; omega
              have f7 : decide (0 < (k : Int)) = false := by simp; omega
              have f8 : decide (0 < k) = false := by simp; omega
              have HZ := Lib.hid (show ¬ (m = 0 ∧ 0 < k) by omega)
              clear hk0
              by_cases hm0 : m = 0
              · have f5 : ((m : Int) == 0) = true := by simp; omega
                clear hm0
                go_wp2_with (first
            | go_skip
            | ((with_reducible show wpList _ _ _ (_ :: _) _ _); (with_reducible apply wpl_loadCH); (· first | exact cell_sl | exact cell_err); (· rfl); (· rfl); (· exact H); (· (repeat (first | (with_reducible exact List.mem_cons_self) | with_reducible apply List.mem_cons_of_mem))); (· (with_reducible first | exact tkr_g0 .. | exact tkr_g1 ..)); (simp only [Act.put, List.setIfInBounds_toArray, List.set_cons_zero, List.set_cons_succ]))
            | (first | ((with_reducible show wpList _ _ _ (_ :: _) _ _); (with_reducible apply wpl_storeIH); (· exact cell_err); (· rfl); (· rfl); (· rfl); (· exact H); (· (repeat (first | (with_reducible exact List.mem_cons_self) | with_reducible apply List.mem_cons_of_mem))); (· (simp only [tkr_sz, Nat.reduceLT]; done)); (· (with_reducible first | exact tkr_s0 .. | exact tkr_s1 ..)); (· (repeat (first | (with_reducible exact Repl.here) | with_reducible apply Repl.there))); (clear H; intro _ H); (simp only [Act.put, List.setIfInBounds_toArray, List.set_cons_zero, List.set_cons_succ])) | ((with_reducible show wpList _ _ _ (_ :: _) _ _); (with_reducible apply wpl_storeBH); (· exact cell_err); (· rfl); (· rfl); (· rfl); (· exact H); (· (repeat (first | (with_reducible exact List.mem_cons_self) | with_reducible apply List.mem_cons_of_mem))); (· (simp only [tkr_sz, Nat.reduceLT]; done)); (· (with_reducible first | exact tkr_s0 .. | exact tkr_s1 ..)); (· (repeat (first | (with_reducible exact Repl.here) | with_reducible apply Repl.there))); (clear H; intro _ H); (simp only [Act.put, List.setIfInBounds_toArray, List.set_cons_zero, List.set_cons_succ])) | ((with_reducible show wpList _ _ _ (_ :: _) _ _); (with_reducible apply wpl_storeSH); (· exact cell_err); (· rfl); (· rfl); (· rfl); (· exact H); (· (repeat (first | (with_reducible exact List.mem_cons_self) | with_reducible apply List.mem_cons_of_mem))); (· (simp only [tkr_sz, Nat.reduceLT]; done)); (· (with_reducible first | exact tkr_s0 .. | exact tkr_s1 ..)); (· (repeat (first | (with_reducible exact Repl.here) | with_reducible apply Repl.there))); (clear H; intro _ H); (simp only [Act.put, List.setIfInBounds_toArray, List.set_cons_zero, List.set_cons_succ])) | ((with_reducible show wpList _ _ _ (_ :: _) _ _); (with_reducible apply wpl_storePH); (· exact cell_err); (· rfl); (· rfl); (· rfl); (· exact H); (· (repeat (first | (with_reducible exact List.mem_cons_self) | with_reducible apply List.mem_cons_of_mem))); (· (simp only [tkr_sz, Nat.reduceLT]; done)); (· (with_reducible first | exact tkr_s0 .. | exact tkr_s1 ..)); (· (repeat (first | (with_reducible exact Repl.here) | with_reducible apply Repl.there))); (clear H; intro _ H); (simp only [Act.put, List.setIfInBounds_toArray, List.set_cons_zero, List.set_cons_succ]))))
                go_loopw [6, 7] (RkM W (TkrT p (.slice (cutA (some ⟨g, o, none⟩) c 1 1) (n - k - 1) (c - 1)) 0 :: l) (m % 128) k) (fun _ i _ => k - (intOf i).toNat)
                case atStart => exact ⟨⟨0, rfl, by omega, by simp, H⟩⟩
                case round =>
                  obtain ⟨j, rfl, hj, rfl, H'⟩ := hrel.out
                  clear H hrel
                  have H := H'
                  clear H'
                  by_cases hjk : j < k
                  · have hmul : ∀ z : Int, z = ((m % 128 * 128 ^ j : Nat) : Int) → IntKind.u64.wrap (z * 128) = ((m % 128 * 128 ^ (j + 1) : Nat) : Int) := fun z hz => by
                      have e1 : m % 128 * 128 ^ (j + 1) = m % 128 * 128 ^ j * 128 := by rw [Nat.pow_succ, Nat.mul_assoc]
                      have e2 : m % 128 * 128 ^ (j + 1) ≤ m % 128 * 128 ^ k := Nat.mul_le_mul_left _ (Nat.pow_le_pow_right (by omega) (by omega))
                      have := HS.out.1
                      rw [hz, IntKind.wrap_u64, e1, Int.natCast_mul]
                      rw [e1] at e2
                      omega
                    have HMUL := Lib.hid hmul
                    obtain ⟨y, hy⟩ : ∃ y, m % 128 * 128 ^ j = y := ⟨_, rfl⟩
                    have HY := Lib.hid hy
                    rw [hy]
                    clear hmul hy
                    go_wp2_with (go_skip)
                    refine ⟨?_, ?_⟩
                    · exact ⟨⟨j + 1, by go_num, by omega, by first | rw [HMUL.out _ (by rw [HY.out])] | (rw [← HMUL.out _ (by rw [HY.out]), IntKind.wrap_u64]), H⟩⟩
                    · simp [intOf]; omega
                  · obtain rfl : j = k := by omega
                    have hsum : ((acc : Int) + ((m % 128 * 128 ^ j : Nat) : Int)) % 18446744073709551616 = ((acc + m % 128 * 128 ^ j : Nat) : Int) := by
                      have := HS.out.1
                      omega
                    have HSUM := Lib.hid hsum
                    obtain ⟨y, hy⟩ : ∃ y, m % 128 * 128 ^ j = y := ⟨_, rfl⟩
                    have hyb : acc + y < 18446744073709551616 := by rw [← hy]; exact HS.out.1
                    have HY := Lib.hid hy
                    rw [hy]
                    clear hsum hy
                    by_cases hlt : m < 128
                    · have f9 : decide ((m : Int) < 128) = true := by simp; omega
                      have HO := Lib.hid hlt
                      clear hlt
                      go_wp2_with (go_skip)
                      go_ret
                      have e1 := HTK.out
                      rw [if_pos HO.out, if_neg HZ.out, show m * 128 ^ j = y by rw [← HY.out, Nat.mod_eq_of_lt HO.out]] at e1
                      exact ⟨_, _, _, by rw [← e1]; rfl, fun _ => by rw [← e1]; show n - j - 1 + (j + 1) = n; omega, by rw [← e1]; exact H⟩
                    · have f9 : decide ((m : Int) < 128) = false := by simp; omega
                      have HO := Lib.hid (And.intro hlt hm)
                      clear hlt
                      go_wp2_with (go_skip)
                      refine ⟨?_, ?_⟩
                      · have e1 := HTK.out
                        rw [if_neg HO.out.1, show m - 128 = m % 128 by have := HO.out; omega, HY.out] at e1
                        refine ⟨⟨j + 1, acc + y, cutA (some ⟨g, o, none⟩) c 1 1, c - 1, by go_num, by go_num, by omega, by rw [HN.out]; omega, ?_, ?_, by omega, HRD.out, by rw [show n - (j + 1) = n - j - 1 by omega]; exact H⟩⟩
                        · have := HS.out.2
                          have h2 := HS.out.2.1
                          rw [Nat.pow_succ]
                          rw [← HY.out]; omega
                        · rw [show 10 - (j + 1) = 9 - j by omega]
                          exact e1
                      · simp [intOf]; omega
              · have f5 : ((m : Int) == 0) = false := by simp; omega
                clear hm0
                go_wp2_with (first
            | go_skip
            | ((with_reducible show wpList _ _ _ (_ :: _) _ _); (with_reducible apply wpl_loadCH); (· first | exact cell_sl | exact cell_err); (· rfl); (· rfl); (· exact H); (· (repeat (first | (with_reducible exact List.mem_cons_self) | with_reducible apply List.mem_cons_of_mem))); (· (with_reducible first | exact tkr_g0 .. | exact tkr_g1 ..)); (simp only [Act.put, List.setIfInBounds_toArray, List.set_cons_zero, List.set_cons_succ]))
            | (first | ((with_reducible show wpList _ _ _ (_ :: _) _ _); (with_reducible apply wpl_storeIH); (· exact cell_err); (· rfl); (· rfl); (· rfl); (· exact H); (· (repeat (first | (with_reducible exact List.mem_cons_self) | with_reducible apply List.mem_cons_of_mem))); (· (simp only [tkr_sz, Nat.reduceLT]; done)); (· (with_reducible first | exact tkr_s0 .. | exact tkr_s1 ..)); (· (repeat (first | (with_reducible exact Repl.here) | with_reducible apply Repl.there))); (clear H; intro _ H); (simp only [Act.put, List.setIfInBounds_toArray, List.set_cons_zero, List.set_cons_succ])) | ((with_reducible show wpList _ _ _ (_ :: _) _ _); (with_reducible apply wpl_storeBH); (· exact cell_err); (· rfl); (· rfl); (· rfl); (· exact H); (· (repeat (first | (with_reducible exact List.mem_cons_self) | with_reducible apply List.mem_cons_of_mem))); (· (simp only [tkr_sz, Nat.reduceLT]; done)); (· (with_reducible first | exact tkr_s0 .. | exact tkr_s1 ..)); (· (repeat (first | (with_reducible exact Repl.here) | with_reducible apply Repl.there))); (clear H; intro _ H); (simp only [Act.put, List.setIfInBounds_toArray, List.set_cons_zero, List.set_cons_succ])) | ((with_reducible show wpList _ _ _ (_ :: _) _ _); (with_reducible apply wpl_storeSH); (· exact cell_err); (· rfl); (· rfl); (· rfl); (· exact H); (· (repeat (first | (with_reducible exact List.mem_cons_self) | with_reducible apply List.mem_cons_of_mem))); (· (simp only [tkr_sz, Nat.reduceLT]; done)); (· (with_reducible first | exact tkr_s0 .. | exact tkr_s1 ..)); (· (repeat (first | (with_reducible exact Repl.here) | with_reducible apply Repl.there))); (clear H; intro _ H); (simp only [Act.put, List.setIfInBounds_toArray, List.set_cons_zero, List.set_cons_succ])) | ((with_reducible show wpList _ _ _ (_ :: _) _ _); (with_reducible apply wpl_storePH); (· exact cell_err); (· rfl); (· rfl); (· rfl); (· exact H); (· (repeat (first | (with_reducible exact List.mem_cons_self) | with_reducible apply List.mem_cons_of_mem))); (· (simp only [tkr_sz, Nat.reduceLT]; done)); (· (with_reducible first | exact tkr_s0 .. | exact tkr_s1 ..)); (· (repeat (first | (with_reducible exact Repl.here) | with_reducible apply Repl.there))); (clear H; intro _ H); (simp only [Act.put, List.setIfInBounds_toArray, List.set_cons_zero, List.set_cons_succ]))))
                go_loopw [6, 7] (RkM W (TkrT p (.slice (cutA (some ⟨g, o, none⟩) c 1 1) (n - k - 1) (c - 1)) 0 :: l) (m % 128) k) (fun _ i _ => k - (intOf i).toNat)
                case atStart => exact ⟨⟨0, rfl, by omega, by simp, H⟩⟩
                case round =>
                  obtain ⟨j, rfl, hj, rfl, H'⟩ := hrel.out
                  clear H hrel
                  have H := H'
                  clear H'
                  by_cases hjk : j < k
                  · have hmul : ∀ z : Int, z = ((m % 128 * 128 ^ j : Nat) : Int) → IntKind.u64.wrap (z * 128) = ((m % 128 * 128 ^ (j + 1) : Nat) : Int) := fun z hz => by
                      have e1 : m % 128 * 128 ^ (j + 1) = m % 128 * 128 ^ j * 128 := by rw [Nat.pow_succ, Nat.mul_assoc]
                      have e2 : m % 128 * 128 ^ (j + 1) ≤ m % 128 * 128 ^ k := Nat.mul_le_mul_left _ (Nat.pow_le_pow_right (by omega) (by omega))
                      have := HS.out.1
                      rw [hz, IntKind.wrap_u64, e1, Int.natCast_mul]
                      rw [e1] at e2
                      omega
                    have HMUL := Lib.hid hmul
                    obtain ⟨y, hy⟩ : ∃ y, m % 128 * 128 ^ j = y := ⟨_, rfl⟩
                    have HY := Lib.hid hy
                    rw [hy]
                    clear hmul hy
                    go_wp2_with (go_skip)
                    refine ⟨?_, ?_⟩
                    · exact ⟨⟨j + 1, by go_num, by omega, by first | rw [HMUL.out _ (by rw [HY.out])] | (rw [← HMUL.out _ (by rw [HY.out]), IntKind.wrap_u64]), H⟩⟩
                    · simp [intOf]; omega
                  · obtain rfl : j = k := by omega
                    have hsum : ((acc : Int) + ((m % 128 * 128 ^ j : Nat) : Int)) % 18446744073709551616 = ((acc + m % 128 * 128 ^ j : Nat) : Int) := by
                      have := HS.out.1
                      omega
                    have HSUM := Lib.hid hsum
                    obtain ⟨y, hy⟩ : ∃ y, m % 128 * 128 ^ j = y := ⟨_, rfl⟩
                    have hyb : acc + y < 18446744073709551616 := by rw [← hy]; exact HS.out.1
                    have HY := Lib.hid hy
                    rw [hy]
                    clear hsum hy
                    by_cases hlt : m < 128
                    · have f9 : decide ((m : Int) < 128) = true := by simp; omega
                      have HO := Lib.hid hlt
                      clear hlt
                      go_wp2_with (go_skip)
                      go_ret
                      have e1 := HTK.out
                      rw [if_pos HO.out, if_neg HZ.out, show m * 128 ^ j = y by rw [← HY.out, Nat.mod_eq_of_lt HO.out]] at e1
                      exact ⟨_, _, _, by rw [← e1]; rfl, fun _ => by rw [← e1]; show n - j - 1 + (j + 1) = n; omega, by rw [← e1]; exact H⟩
                    · have f9 : decide ((m : Int) < 128) = false := by simp; omega
                      have HO := Lib.hid (And.intro hlt hm)
                      clear hlt
                      go_wp2_with (go_skip)
                      refine ⟨?_, ?_⟩
                      · have e1 := HTK.out
                        rw [if_neg HO.out.1, show m - 128 = m % 128 by have := HO.out; omega, HY.out] at e1
                        refine ⟨⟨j + 1, acc + y, cutA (some ⟨g, o, none⟩) c 1 1, c - 1, by go_num, by go_num, by omega, by rw [HN.out]; omega, ?_, ?_, by omega, HRD.out, by rw [show n - (j + 1) = n - j - 1 by omega]; exact H⟩⟩
                        · have := HS.out.2
                          have h2 := HS.out.2.1
                          rw [Nat.pow_succ]
                          rw [← HY.out]; omega
                        · rw [show 10 - (j + 1) = 9 - j by omega]
                          exact e1
                      · simp [intOf]; omega
      · obtain rfl : k = n := by have := HN.out; omega
        rw [Nat.sub_self] at H
        rw [← HN.out, List.drop_length, show 10 - zs.length = (9 - zs.length) + 1 by rw [HN.out]; omega, tkFrom] at htk
        have HTK := Lib.hid htk
        clear htk hrd
        go_wp2_with (go_skip)
        refine (byte_none p a c H).mono ?_
        clear H
        rintro e w1 ⟨rfl, H⟩
        go_wp2_with (first
            | go_skip
            | ((with_reducible show wpList _ _ _ (_ :: _) _ _); (with_reducible apply wpl_loadCH); (· first | exact cell_sl | exact cell_err); (· rfl); (· rfl); (· exact H); (· (repeat (first | (with_reducible exact List.mem_cons_self) | with_reducible apply List.mem_cons_of_mem))); (· (with_reducible first | exact tkr_g0 .. | exact tkr_g1 ..)); (simp only [Act.put, List.setIfInBounds_toArray, List.set_cons_zero, List.set_cons_succ]))
            | (first | ((with_reducible show wpList _ _ _ (_ :: _) _ _); (with_reducible apply wpl_storeIH); (· exact cell_err); (· rfl); (· rfl); (· rfl); (· exact H); (· (repeat (first | (with_reducible exact List.mem_cons_self) | with_reducible apply List.mem_cons_of_mem))); (· (simp only [tkr_sz, Nat.reduceLT]; done)); (· (with_reducible first | exact tkr_s0 .. | exact tkr_s1 ..)); (· (repeat (first | (with_reducible exact Repl.here) | with_reducible apply Repl.there))); (clear H; intro _ H); (simp only [Act.put, List.setIfInBounds_toArray, List.set_cons_zero, List.set_cons_succ])) | ((with_reducible show wpList _ _ _ (_ :: _) _ _); (with_reducible apply wpl_storeBH); (· exact cell_err); (· rfl); (· rfl); (· rfl); (· exact H); (· (repeat (first | (with_reducible exact List.mem_cons_self) | with_reducible apply List.mem_cons_of_mem))); (· (simp only [tkr_sz, Nat.reduceLT]; done)); (· (with_reducible first | exact tkr_s0 .. | exact tkr_s1 ..)); (· (repeat (first | (with_reducible exact Repl.here) | with_reducible apply Repl.there))); (clear H; intro _ H); (simp only [Act.put, List.setIfInBounds_toArray, List.set_cons_zero, List.set_cons_succ])) | ((with_reducible show wpList _ _ _ (_ :: _) _ _); (with_reducible apply wpl_storeSH); (· exact cell_err); (· rfl); (· rfl); (· rfl); (· exact H); (· (repeat (first | (with_reducible exact List.mem_cons_self) | with_reducible apply List.mem_cons_of_mem))); (· (simp only [tkr_sz, Nat.reduceLT]; done)); (· (with_reducible first | exact tkr_s0 .. | exact tkr_s1 ..)); (· (repeat (first | (with_reducible exact Repl.here) | with_reducible apply Repl.there))); (clear H; intro _ H); (simp only [Act.put, List.setIfInBounds_toArray, List.set_cons_zero, List.set_cons_succ])) | ((with_reducible show wpList _ _ _ (_ :: _) _ _); (with_reducible apply wpl_storePH); (· exact cell_err); (· rfl); (· rfl); (· rfl); (· exact H); (· (repeat (first | (with_reducible exact List.mem_cons_self) | with_reducible apply List.mem_cons_of_mem))); (· (simp only [tkr_sz, Nat.reduceLT]; done)); (· (with_reducible first | exact tkr_s0 .. | exact tkr_s1 ..)); (· (repeat (first | (with_reducible exact Repl.here) | with_reducible apply Repl.there))); (clear H; intro _ H); (simp only [Act.put, List.setIfInBounds_toArray, List.set_cons_zero, List.set_cons_succ]))))
        go_ret
        exact ⟨_, _, _, by rw [← HTK.out]; rfl, fun h => by rw [← HTK.out] at h; exact absurd h (by decide), by rw [← HTK.out]; exact H⟩
    · obtain rfl : k = 10 := by omega
      have HTK := Lib.hid htk
      clear htk hrd
      go_wp2_with (first
            | go_skip
            | ((with_reducible show wpList _ _ _ (_ :: _) _ _); (with_reducible apply wpl_loadCH); (· first | exact cell_sl | exact cell_err); (· rfl); (· rfl); (· exact H); (· (repeat (first | (with_reducible exact List.mem_cons_self) | with_reducible apply List.mem_cons_of_mem))); (· (with_reducible first | exact tkr_g0 .. | exact tkr_g1 ..)); (simp only [Act.put, List.setIfInBounds_toArray, List.set_cons_zero, List.set_cons_succ]))
            | (first | ((with_reducible show wpList _ _ _ (_ :: _) _ _); (with_reducible apply wpl_storeIH); (· exact cell_err); (· rfl); (· rfl); (· rfl); (· exact H); (· (repeat (first | (with_reducible exact List.mem_cons_self) | with_reducible apply List.mem_cons_of_mem))); (· (simp only [tkr_sz, Nat.reduceLT]; done)); (· (with_reducible first | exact tkr_s0 .. | exact tkr_s1 ..)); (· (repeat (first | (with_reducible exact Repl.here) | with_reducible apply Repl.there))); (clear H; intro _ H); (simp only [Act.put, List.setIfInBounds_toArray, List.set_cons_zero, List.set_cons_succ])) | ((with_reducible show wpList _ _ _ (_ :: _) _ _); (with_reducible apply wpl_storeBH); (· exact cell_err); (· rfl); (· rfl); (· rfl); (· exact H); (· (repeat (first | (with_reducible exact List.mem_cons_self) | with_reducible apply List.mem_cons_of_mem))); (· (simp only [tkr_sz, Nat.reduceLT]; done)); (· (with_reducible first | exact tkr_s0 .. | exact tkr_s1 ..)); (· (repeat (first | (with_reducible exact Repl.here) | with_reducible apply Repl.there))); (clear H; intro _ H); (simp only [Act.put, List.setIfInBounds_toArray, List.set_cons_zero, List.set_cons_succ])) | ((with_reducible show wpList _ _ _ (_ :: _) _ _); (with_reducible apply wpl_storeSH); (· exact cell_err); (· rfl); (· rfl); (· rfl); (· exact H); (· (repeat (first | (with_reducible exact List.mem_cons_self) | with_reducible apply List.mem_cons_of_mem))); (· (simp only [tkr_sz, Nat.reduceLT]; done)); (· (with_reducible first | exact tkr_s0 .. | exact tkr_s1 ..)); (· (repeat (first | (with_reducible exact Repl.here) | with_reducible apply Repl.there))); (clear H; intro _ H); (simp only [Act.put, List.setIfInBounds_toArray, List.set_cons_zero, List.set_cons_succ])) | ((with_reducible show wpList _ _ _ (_ :: _) _ _); (with_reducible apply wpl_storePH); (· exact cell_err); (· rfl); (· rfl); (· rfl); (· exact H); (· (repeat (first | (with_reducible exact List.mem_cons_self) | with_reducible apply List.mem_cons_of_mem))); (· (simp only [tkr_sz, Nat.reduceLT]; done)); (· (with_reducible first | exact tkr_s0 .. | exact tkr_s1 ..)); (· (repeat (first | (with_reducible exact Repl.here) | with_reducible apply Repl.there))); (clear H; intro _ H); (simp only [Act.put, List.setIfInBounds_toArray, List.set_cons_zero, List.set_cons_succ]))))
      go_ret
      exact ⟨_, _, _, by rw [← HTK.out]; rfl, fun h => by rw [← HTK.out] at h; exact absurd h (by simp [tkFrom]), by rw [← HTK.out]; exact H⟩
end
end Go.Proofs.YtlinhcbjljcgbaaDoor
