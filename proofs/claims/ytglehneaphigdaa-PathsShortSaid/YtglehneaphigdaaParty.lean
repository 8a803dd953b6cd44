/- slices' functions of parties: Index, Min. -/
import Derived.Test.YtglehneaphigdaaOnce
namespace Go.Proofs.Ytglehneaphigdaa
open Go.RowKit
set_option linter.unusedSimpArgs false
set_option linter.unusedVariables false
theorem rd_party {w : World} {g o k x : Nat} {L : List Nat} (R : Rd w (some ⟨g, o, none⟩) (L.map pv)) (h : L[k]? = some x) : w.cell? ⟨g, o + k, none⟩ = some (.int .u8 (x : Int)) := by
  obtain ⟨hk, hx⟩ := List.getElem?_eq_some_iff.1 h
  obtain ⟨b, o', he, hc⟩ := R k (by simpa using hk)
  cases he
  rw [hc]
  simp [pv, hx]
theorem idxOf_le_at {x : Nat} : ∀ {L : List Nat} {k : Nat} (h : k < L.length), L[k] = x → L.idxOf x ≤ k
  | [], _, h, _ => by simp at h
  | y :: L, 0, h, e => by simp at e; subst e; simp
  | y :: L, k + 1, h, e => by
    rw [List.idxOf_cons]
    have := idxOf_le_at (L := L) (k := k) (by simpa using h) (by simpa using e)
    cases y == x <;> simp <;> omega
def minT (L : List Nat) (k : Nat) : Nat := (L.take k).foldl min (L.headD 0)
def minL (L : List Nat) : Nat := L.foldl min (L.headD 0)
theorem minT_succ {L : List Nat} {k x : Nat} (h : L[k]? = some x) : minT L (k + 1) = min (minT L k) x := by
  unfold minT
  rw [List.take_add_one, h]
  simp
theorem minT_all (L : List Nat) {k : Nat} (h : L.length ≤ k) : minT L k = minL L := by
  unfold minT minL
  rw [List.take_of_length_le h]
theorem minT_one {L : List Nat} {x : Nat} (h : L[0]? = some x) : minT L 1 = x := by
  cases L with
  | nil => simp at h
  | cons y L => simp at h; subst h; simp [minT]
theorem minT_le (L : List Nat) (hL : ∀ x ∈ L, x ≤ 255) : ∀ k, minT L k ≤ 255 ∨ L = [] := by
  intro k
  cases L with
  | nil => exact .inr rfl
  | cons y L =>
    left
    have : ∀ (M : List Nat) (a : Nat), a ≤ 255 → M.foldl min a ≤ 255 := by
      intro M
      induction M with
      | nil => intro a h; exact h
      | cons z M ih => intro a h; exact ih _ (Nat.le_trans (Nat.min_le_left _ _) h)
    exact this _ _ (hL y List.mem_cons_self)
section
variable {W w : World} {l : List Thing}
set_option maxRecDepth 100000
set_option maxHeartbeats 2000000
theorem index_H (g o n c : Nat) (L : List Nat) (x : Nat) (hl : L.length = n) (hn : n ≤ 9223372036854775807) (hL : ∀ y ∈ L, y ≤ 255) (hx : x ∈ L) (R : ∀ w', Heap W l w' → Rd w' (some ⟨g, o, none⟩) (L.map pv)) :
    AnsH W l 60 #[.slice (some ⟨g, o, none⟩) n c, .int .u8 (x : Int)] (.int .i64 (L.idxOf x : Int)) := by
  intro w H
  have hi : L.idxOf x < n := by rw [← hl]; exact List.idxOf_lt_length_of_mem hx
  have HR := Lib.hid R
  have HL := Lib.hid hl
  have HLs := Lib.hid hL
  have HX := Lib.hid hx
  clear R hl hL hx
  go_enter Try.func60, Try.ntmps60
  go_wp2_with (go_skip)
  have H0 := H
  clear H
  go_loopw [8] (fun i wr => ∃ k : Nat, k ≤ L.idxOf x ∧ i = .int .i64 k ∧ Heap W l wr) (fun i _ => n - (intOf i).toNat)
  case atStart => exact ⟨0, Nat.zero_le _, rfl, H0⟩
  case round =>
    obtain ⟨k, hk, rfl, H'⟩ := hrel
    clear H0
    have H := H'
    clear H'
    have hkn : k < n := by omega
    have hkL : k < L.length := by rw [HL.out]; exact hkn
    have hg : L[k]? = some L[k] := List.getElem?_eq_getElem hkL
    have hy := HLs.out L[k] (List.getElem_mem hkL)
    by_cases he : k = L.idxOf x
    · have hgx : L[k]? = some x := by
        rw [hg]
        have h1 : L.idxOf x < L.length := by rw [← he]; exact hkL
        have h2 := List.getElem_idxOf h1
        congr 1
        rw [← h2]
        congr 1
      have HE := Lib.hid he
      clear he hg hy
      go_wp2_with (first
        | go_skip
        | ((with_reducible show wpList _ _ _ (_ :: _) _ _); (with_reducible apply wpl_loadCell cell_party); (· rfl); (· rfl); (· exact rd_party (HR.out _ H) hgx); (simp only [Act.put, List.setIfInBounds_toArray, List.set_cons_zero, List.set_cons_succ])))
      go_ret
      rw [HE.out]
      exact ⟨rfl, H⟩
    · have hne : L[k] ≠ x := fun e => by
        have h1 := idxOf_le_at hkL e
        omega
      generalize L[k] = y at *
      have e1 : ((x : Int) == (y : Int)) = false := by simp; omega
      have e2 : decide ((x : Int) = (y : Int)) = false := by simp; omega
      have HE := Lib.hid he
      clear he
      go_wp2_with (first
        | go_skip
        | ((with_reducible show wpList _ _ _ (_ :: _) _ _); (with_reducible apply wpl_loadCell cell_party); (· rfl); (· rfl); (· exact rd_party (HR.out _ H) hg); (simp only [Act.put, List.setIfInBounds_toArray, List.set_cons_zero, List.set_cons_succ])))
      go_roundw
      case rel => exact ⟨k + 1, by have := HE.out; omega, by go_num, H⟩
      case measure => simp [intOf]; omega
theorem min_H (g o n c : Nat) (L : List Nat) (hl : L.length = n) (h1 : 1 ≤ n) (hn : n ≤ 9223372036854775807) (hL : ∀ y ∈ L, y ≤ 255) (R : ∀ w', Heap W l w' → Rd w' (some ⟨g, o, none⟩) (L.map pv)) :
    AnsH W l 61 #[.slice (some ⟨g, o, none⟩) n c] (.int .u8 (minL L : Int)) := by
  intro w H
  have HR := Lib.hid R
  have HL := Lib.hid hl
  have HLs := Lib.hid hL
  have h0 : 0 < L.length := by omega
  have hg0 : L[0]? = some L[0] := List.getElem?_eq_getElem h0
  have HM := Lib.hid (minT_one hg0)
  have hx0 := hL _ (List.getElem_mem h0)
  generalize L[0] = x0 at *
  clear R hl hL h0
  go_enter Try.func61, Try.ntmps61
  go_wp2_with (first
    | go_skip
    | ((with_reducible show wpList _ _ _ (_ :: _) _ _); (with_reducible apply wpl_loadCell cell_party); (· rfl); (· rfl); (· exact rd_party (HR.out _ H) hg0); (simp only [Act.put, List.setIfInBounds_toArray, List.set_cons_zero, List.set_cons_succ])))
  have H0 := H
  clear H
  go_loopw [3, 4] (fun v i wr => ∃ k : Nat, 1 ≤ k ∧ k ≤ n ∧ i = .int .i64 k ∧ v = .int .u8 (minT L k : Int) ∧ Heap W l wr) (fun _ i _ => n - (intOf i).toNat)
  case atStart => exact ⟨1, Nat.le_refl _, h1, rfl, by rw [HM.out], H0⟩
  case round =>
    obtain ⟨k, hk1, hkn, rfl, rfl, H'⟩ := hrel
    clear H0
    have H := H'
    clear H'
    by_cases hlt : k < n
    · have hkL : k < L.length := by rw [HL.out]; exact hlt
      have hg : L[k]? = some L[k] := List.getElem?_eq_getElem hkL
      have hy := HLs.out L[k] (List.getElem_mem hkL)
      have HS := Lib.hid (minT_succ hg)
      generalize L[k] = y at *
      go_wp2_with (first
        | go_skip
        | ((with_reducible show wpList _ _ _ (_ :: _) _ _); (with_reducible apply wpl_loadCell cell_party); (· rfl); (· rfl); (· exact rd_party (HR.out _ H) hg); (simp only [Act.put, List.setIfInBounds_toArray, List.set_cons_zero, List.set_cons_succ])))
      refine ⟨⟨k + 1, by omega, by omega, by go_num, ?_, H⟩, ?measure⟩
      · rw [HS.out]
        by_cases hc : y < minT L k
        · rw [if_pos hc, Nat.min_eq_right (by omega)]
        · rw [if_neg hc, Nat.min_eq_left (by omega)]
      case measure => simp [intOf]; omega
    · obtain rfl : k = n := by omega
      have HA := Lib.hid (minT_all L (k := k) (by rw [HL.out]; omega))
      go_wp2_with (go_skip)
      go_ret
      rw [HA.out]
      exact ⟨rfl, H⟩
end
end Go.Proofs.Ytglehneaphigdaa
