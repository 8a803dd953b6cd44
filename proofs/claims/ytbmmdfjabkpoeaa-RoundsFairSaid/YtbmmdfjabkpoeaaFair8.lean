/- countinghouselaw08: Sum, of. -/
import Derived.Test.YtbmmdfjabkpoeaaRnd12
import Derived.Test.YtbmmdfjabkpoeaaRef08m
namespace Go.Proofs.Ytbmmdfjabkpoeaa
open Go.RowKit
set_option linter.unusedSimpArgs false
set_option linter.unusedVariables false
def sumF (F : List Flw) : Int := (F.map Flw.n).sum
theorem sumF_take {F : List Flw} {k : Nat} {x : Flw} (h : F[k]? = some x) : sumF (F.take (k + 1)) = sumF (F.take k) + x.n := by
  unfold sumF
  rw [List.take_add_one, h, Option.toList_some, List.map_append, List.sum_append]
  simp
theorem sumF_bnd : ∀ (F : List Flw), (∀ x ∈ F, 0 ≤ x.n ∧ x.n ≤ 1099511627776) → 0 ≤ sumF F ∧ sumF F ≤ 1099511627776 * (F.length : Int)
  | [], _ => by simp [sumF]
  | x :: F, h => by
    have h1 := h x List.mem_cons_self
    have h2 := sumF_bnd F fun y hy => h y (List.mem_cons_of_mem _ hy)
    unfold sumF at *
    rw [List.map_cons, List.sum_cons, List.length_cons]
    omega
structure SuR (W : World) (l : List Thing) (F : List Flw) (n : Nat) (s i : Value) (wr : World) : Prop where
  out : ∃ k : Nat, k ≤ n ∧ i = .int .i64 (k : Int) ∧ s = .int .i64 (sumF (F.take k)) ∧ Heap W l wr
structure OfR (W : World) (l : List Thing) (F : List Flw) (f t n : Nat) (i : Value) (wr : World) : Prop where
  out : ∃ k : Nat, k ≤ n ∧ i = .int .i64 (k : Int) ∧ (∀ (j : Nat) (y : Flw), j < k → F[j]? = some y → ¬ (y.f = f ∧ y.t = t)) ∧ Heap W l wr
section
variable {W w : World} {l : List Thing}
set_option maxRecDepth 100000
set_option maxHeartbeats 4000000
theorem sum8_H (a : Option Addr) (n c : Nat) (F : List Flw) (hl : F.length = n) (hn : n ≤ 1000) (hF : ∀ x ∈ F, 0 ≤ x.n ∧ x.n ≤ 1099511627776) (R : ∀ w', Heap W l w' → Rd w' a (flwL F)) :
    AnsH W l 16 #[.slice a n c] (.int .i64 (sumF F)) := by
  intro w H
  have HL := Lib.hid hl
  have HR := Lib.hid R
  have HF := Lib.hid hF
  clear hl R hF
  go_enter Try.func16, Try.ntmps16
  go_wp2_with (go_skip)
  have H0 := H
  clear H
  go_loopw [3, 4] (fun s i wr => SuR W l F n s i wr) (fun _ i _ => n - (intOf i).toNat)
  case atStart => exact ⟨0, Nat.zero_le _, rfl, rfl, H0⟩
  case round =>
    obtain ⟨k, hk, rfl, rfl, H⟩ := hrel.out
    clear H0 hrel
    by_cases hlt : k < n
    · have hfk : F[k]? = some (F[k]'(by rw [HL.out]; exact hlt)) := List.getElem?_eq_getElem _
      generalize F[k]'(by rw [HL.out]; exact hlt) = x at *
      have hb := sumF_bnd (F.take k) fun y hy => HF.out y (List.mem_of_mem_take hy)
      rw [List.length_take, HL.out] at hb
      have hx := HF.out x (List.mem_of_getElem? hfk)
      obtain ⟨eb, eo, rfl, _⟩ := (HR.out _ H).lt (by rw [flwL_len, HL.out]; omega)
      have hc := (rd_flow (HR.out _ H) hfk).2.2
      have HT := Lib.hid (sumF_take hfk)
      clear hfk
      generalize sumF (F.take k) = s at *
      obtain ⟨f, t, y⟩ := x
      simp only at hx hc
      have hb2 : s ≤ 1099511627776000 := by omega
      go_wp2_with (first | go_skip | ((with_reducible show wpList _ _ _ (_ :: _) _ _); (with_reducible apply wpl_loadCell cell_i64); (· rfl); (· rfl); (· exact hc); (simp only [Act.put, List.setIfInBounds_toArray, List.set_cons_zero, List.set_cons_succ])))
      refine ⟨⟨k + 1, by omega, by go_num, ?_, H⟩, ?measure1⟩
      case measure1 => simp [intOf]; omega
      rw [HT.out]
    · obtain rfl : k = n := by omega
      have ht : F.take k = F := List.take_of_length_le (by rw [HL.out]; exact Nat.le_refl _)
      rw [ht]
      go_wp2_with (go_skip)
      go_ret
      exact ⟨rfl, H⟩
theorem of8_H (a : Option Addr) (n c : Nat) (F : List Flw) (f t : Nat) (hl : F.length = n) (hn : n ≤ 1000000) (R : ∀ w', Heap W l w' → Rd w' a (flwL F)) :
    AnsH W l 30 #[.slice a n c, .int .u8 (f : Int), .int .u8 (t : Int)] (.int .i64 (ofF F f t)) := by
  intro w H
  have HL := Lib.hid hl
  have HR := Lib.hid R
  clear hl R
  go_enter Try.func30, Try.ntmps30
  go_wp2_with (go_skip)
  have H0 := H
  clear H
  go_loopw [7] (fun i wr => OfR W l F f t n i wr) (fun i _ => n - (intOf i).toNat)
  case atStart => exact ⟨0, Nat.zero_le _, rfl, fun j y hj => absurd hj (by omega), H0⟩
  case round =>
    obtain ⟨k, hk, rfl, hno, H⟩ := hrel.out
    clear H0 hrel
    have HNO := Lib.hid hno
    clear hno
    by_cases hlt : k < n
    · have hfk : F[k]? = some (F[k]'(by rw [HL.out]; exact hlt)) := List.getElem?_eq_getElem _
      generalize F[k]'(by rw [HL.out]; exact hlt) = x at *
      obtain ⟨eb, eo, rfl, _⟩ := (HR.out _ H).lt (by rw [flwL_len, HL.out]; omega)
      have hc := rd_flow (HR.out _ H) hfk
      obtain ⟨x1, x2, y⟩ := x
      obtain ⟨hc0, hc1, hc2⟩ := hc
      rw [Nat.add_zero] at hc0
      simp only at hc0 hc1 hc2
      have HFK := Lib.hid hfk
      clear hfk
      have hnext : ¬ (x1 = f ∧ x2 = t) → ∀ (j : Nat) (y : Flw), j < k + 1 → F[j]? = some y → ¬ (y.f = f ∧ y.t = t) := fun h j z hj hz => by
        by_cases e : j = k
        · subst e; rw [HFK.out] at hz; cases hz; exact h
        · exact HNO.out j z (by omega) hz
      have HNX := Lib.hid hnext
      clear hnext
      by_cases u1 : x1 = f
      · have e1 : ((x1 : Int) == (f : Int)) = true := by simp; omega
        by_cases u2 : x2 = t
        · have e2 : ((x2 : Int) == (t : Int)) = true := by simp; omega
          have HRES := Lib.hid (show ofF F f t = y from ofF_at HFK.out u1 u2 HNO.out)
          clear u1 u2
          go_wp2_with (first | go_skip | ((with_reducible show wpList _ _ _ (_ :: _) _ _); (with_reducible first | apply wpl_loadCell cell_party | apply wpl_loadCell cell_i64); (· rfl); (· rfl); (· with_reducible first | exact hc0 | exact hc1 | exact hc2); (simp only [Act.put, List.setIfInBounds_toArray, List.set_cons_zero, List.set_cons_succ])))
          go_ret
          rw [HRES.out]
          exact ⟨rfl, H⟩
        · have e2 : ((x2 : Int) == (t : Int)) = false := by simp; omega
          have HQ := Lib.hid (HNX.out fun h => u2 h.2)
          clear u1 u2
          go_wp2_with (first | go_skip | ((with_reducible show wpList _ _ _ (_ :: _) _ _); (with_reducible first | apply wpl_loadCell cell_party | apply wpl_loadCell cell_i64); (· rfl); (· rfl); (· with_reducible first | exact hc0 | exact hc1 | exact hc2); (simp only [Act.put, List.setIfInBounds_toArray, List.set_cons_zero, List.set_cons_succ])))
          refine ⟨⟨k + 1, by omega, by go_num, HQ.out, H⟩, ?measure2⟩
          case measure2 => simp [intOf]; omega
      · have e1 : ((x1 : Int) == (f : Int)) = false := by simp; omega
        have HQ := Lib.hid (HNX.out fun h => u1 h.1)
        clear u1
        go_wp2_with (first | go_skip | ((with_reducible show wpList _ _ _ (_ :: _) _ _); (with_reducible first | apply wpl_loadCell cell_party | apply wpl_loadCell cell_i64); (· rfl); (· rfl); (· with_reducible first | exact hc0 | exact hc1 | exact hc2); (simp only [Act.put, List.setIfInBounds_toArray, List.set_cons_zero, List.set_cons_succ])))
        refine ⟨⟨k + 1, by omega, by go_num, HQ.out, H⟩, ?measure3⟩
        case measure3 => simp [intOf]; omega
    · obtain rfl : k = n := by omega
      have HRES := Lib.hid (show ofF F f t = 0 from ofF_no fun y hy => by
        obtain ⟨j, hj, rfl⟩ := List.mem_iff_getElem.1 hy
        exact HNO.out j _ (by rw [← HL.out]; exact hj) (List.getElem?_eq_getElem hj))
      go_wp2_with (go_skip)
      go_ret
      rw [HRES.out]
      exact ⟨rfl, H⟩
end
end Go.Proofs.Ytbmmdfjabkpoeaa
