/- countinghouselaw06.lives. -/
import Derived.Test.YtglehneaphigdaaSameP2
import Derived.Test.YtglehneaphigdaaLives05
namespace Go.Proofs.Ytglehneaphigdaa
open Go.RowKit
set_option linter.unusedSimpArgs false
set_option linter.unusedVariables false
def l6 : List Flw := [⟨1, 2, 1⟩, ⟨2, 4, 1⟩, ⟨1, 3, 1⟩, ⟨3, 4, 1⟩, ⟨2, 3, 1⟩]
def c6 : Caps := upd2 (upd2 (upd2 (upd2 (upd2 zeroC 1 2 1) 2 4 1) 1 3 1) 3 4 1) 2 3 1
theorem new6 : newG l6 = some c6 := rfl
theorem round6a : roundOf ([⟨1, 2, 1⟩, ⟨2, 3, 1⟩, ⟨3, 1, -3⟩] : List Edg) = [1, 2, 3] := by decide +kernel
theorem round6b : roundOf ([⟨1, 2, 1⟩, ⟨2, 1, -1⟩] : List Edg) = [] := by decide +kernel
theorem round6c : roundOf ([⟨3, 3, -1⟩] : List Edg) = [3] := by decide +kernel
def d4 : Nat → Nat := fun p => if p = 4 then 0 else if p = 2 ∨ p = 3 then 1 else if p = 1 then 2 else 17
def d1 : Nat → Nat := fun p => if p = 1 then 0 else 17
theorem edges6 : ∀ p q : Fin 17, edge c6 p q = true → (p.val = 1 ∧ q.val = 2) ∨ (p.val = 2 ∧ q.val = 4) ∨ (p.val = 1 ∧ q.val = 3) ∨ (p.val = 3 ∧ q.val = 4) ∨ (p.val = 2 ∧ q.val = 3) := by decide +kernel
theorem edge6 {p q : Nat} (h : edge c6 p q = true) : (p = 1 ∧ q = 2) ∨ (p = 2 ∧ q = 4) ∨ (p = 1 ∧ q = 3) ∨ (p = 3 ∧ q = 4) ∨ (p = 2 ∧ q = 3) := by
  have hb := edge_le h
  exact edges6 ⟨p, by omega⟩ ⟨q, by omega⟩ h
theorem dist4 : IsDist (edge c6) 4 d4 := by
  refine ⟨rfl, fun p => ?_, fun p hp => ?_, fun p q h => ?_, fun p hp hne => ?_⟩
  · unfold d4; repeat' split
    all_goals omega
  · unfold d4 at *; repeat' split at hp
    all_goals (repeat' split) <;> omega
  · rcases edge6 h with ⟨rfl, rfl⟩ | ⟨rfl, rfl⟩ | ⟨rfl, rfl⟩ | ⟨rfl, rfl⟩ | ⟨rfl, rfl⟩ <;> decide
  · have : p = 1 ∨ p = 2 ∨ p = 3 := by
      unfold d4 at hp
      rw [if_neg hne] at hp
      split at hp
      · omega
      · split at hp <;> omega
    rcases this with rfl | rfl | rfl
    · exact ⟨2, by decide +kernel, rfl⟩
    · exact ⟨4, by decide +kernel, rfl⟩
    · exact ⟨4, by decide +kernel, rfl⟩
theorem dist1 : IsDist (edge c6) 1 d1 := by
  refine ⟨rfl, fun p => ?_, fun p hp => ?_, fun p q h => ?_, fun p hp hne => ?_⟩
  · unfold d1; split <;> omega
  · unfold d1 at *
    by_cases e : p = 1
    · subst e; exact ⟨by omega, by omega, by decide⟩
    · rw [if_neg e] at hp; omega
  · rcases edge6 h with ⟨rfl, rfl⟩ | ⟨rfl, rfl⟩ | ⟨rfl, rfl⟩ | ⟨rfl, rfl⟩ | ⟨rfl, rfl⟩ <;> decide
  · unfold d1 at hp; rw [if_neg hne] at hp; omega
theorem next12 : IsNext (edge c6) d4 1 2 := ⟨by omega, by omega, ⟨rfl, by decide +kernel⟩, fun q h1 h2 => by
  obtain rfl : q = 1 := by omega
  intro h; exact absurd h.1 (by decide)⟩
theorem next24 : IsNext (edge c6) d4 2 4 := ⟨by omega, by omega, ⟨rfl, by decide +kernel⟩, fun q h1 h2 h => by
  have := edge6 h.2
  have h3 : d4 q + 1 = d4 2 := h.1
  have : q = 3 ∨ q = 4 := by omega
  obtain rfl : q = 3 := by omega
  exact absurd h3 (by decide)⟩
theorem way6 : Way (edge c6) d4 1 4 [1, 2, 4] := ⟨rfl, rfl, rfl, fun i x y h1 h2 => by
  rcases i with _ | _ | i
  · simp at h1 h2; subst h1 h2; exact next12
  · simp at h1 h2; subst h1 h2; exact next24
  · simp at h2⟩
theorem short6 {L : List Nat} (h : IsShort c6 1 4 L) : L = [1, 2, 4] := by
  rcases h with ⟨_, h | h | h | ⟨d, hd, h⟩⟩ | ⟨_, _, _, d, hd, _, hw⟩
  · exact absurd h (by decide)
  · exact absurd h (by decide)
  · omega
  · rw [hd.eq dist4 1] at h; exact absurd h (by decide)
  · obtain rfl : d = d4 := funext (hd.eq dist4)
    exact hw.eq way6
theorem short6b {L : List Nat} (h : IsShort c6 4 1 L) : L = [] := by
  rcases h with ⟨h, _⟩ | ⟨_, _, _, d, hd, h, _⟩
  · exact h
  · rw [hd.eq dist1 4] at h; exact absurd h (by decide)
section
variable {W w : World} {l : List Thing}
set_option maxRecDepth 100000
set_option maxHeartbeats 2000000
theorem lives06_H (H : Heap W l w) : Calls Try.prog 35 #[] w fun e w' => e = .returned (.bool true) ∧ Heap W l w' := by
  go_enter Try.func35, Try.ntmps35
  go_wp2_with (go_skip)
  have C := new_H (some ⟨w.heap.size, 0, none⟩) 5 5 l6 rfl (by omega) (by intro x hx; simp [l6] at hx; rcases hx with rfl | rfl | rfl | rfl | rfl <;> (unfold FlwOk; simp)) (fun w' H' => H'.celRd List.mem_cons_self) (H.alloc #[.int .u8 1, .int .u8 2, .int .i64 1, .int .u8 2, .int .u8 4, .int .i64 1, .int .u8 1, .int .u8 3, .int .i64 1, .int .u8 3, .int .u8 4, .int .i64 1, .int .u8 2, .int .u8 3, .int .i64 1] 35)
  clear H
  refine C.mono ?_
  clear C
  rw [new6]
  rintro e w1 ⟨p, rfl, H⟩
  replace H := H.drop (.there .here)
  go_wp2_with (go_skip)
  have C := short_H 1 4 (by omega) (by omega) (CapsOf.gr (W := W) (p := p) (c := c6) List.mem_cons_self) H
  clear H
  refine C.mono ?_
  clear C
  rintro e w2 ⟨va, La, rfl, hs, H⟩
  obtain rfl := short6 hs
  clear hs
  go_wp2_with (go_skip)
  have C := round_H (some ⟨w2.heap.size, 0, none⟩) 3 3 [⟨1, 2, 1⟩, ⟨2, 3, 1⟩, ⟨3, 1, -3⟩] rfl (by omega) (by intro x hx; simp at hx; rcases hx with rfl | rfl | rfl <;> (unfold EdgOk; simp)) (fun w' H' => H'.celRd List.mem_cons_self) (H.alloc #[.int .u8 1, .int .u8 2, .int .i8 (1), .int .u8 2, .int .u8 3, .int .i8 (1), .int .u8 3, .int .u8 1, .int .i8 (-3)] 64)
  clear H
  refine C.mono ?_
  clear C
  rw [show ([⟨1, 2, 1⟩, ⟨2, 3, 1⟩, ⟨3, 1, -3⟩] : List Edg).filter keepE = [⟨1, 2, 1⟩, ⟨2, 3, 1⟩, ⟨3, 1, -3⟩] from by rfl]
  rintro e w3 ⟨vb, rfl, H⟩
  rw [round6a] at H
  replace H := H.drop (.there .here)
  go_wp2_with (go_skip)
  have C := round_H (some ⟨w3.heap.size, 0, none⟩) 2 2 [⟨1, 2, 1⟩, ⟨2, 1, -1⟩] rfl (by omega) (by intro x hx; simp at hx; rcases hx with rfl | rfl <;> (unfold EdgOk; simp)) (fun w' H' => H'.celRd List.mem_cons_self) (H.alloc #[.int .u8 1, .int .u8 2, .int .i8 (1), .int .u8 2, .int .u8 1, .int .i8 (-1)] 64)
  clear H
  refine C.mono ?_
  clear C
  rw [show ([⟨1, 2, 1⟩, ⟨2, 1, -1⟩] : List Edg).filter keepE = [⟨1, 2, 1⟩, ⟨2, 1, -1⟩] from by rfl]
  rintro e w4 ⟨vc, rfl, H⟩
  rw [round6b] at H
  replace H := H.drop (.there .here)
  go_wp2_with (go_skip)
  have C := round_H (some ⟨w4.heap.size, 0, none⟩) 1 1 [⟨3, 3, -1⟩] rfl (by omega) (by intro x hx; simp at hx; rcases hx with rfl <;> (unfold EdgOk; simp)) (fun w' H' => H'.celRd List.mem_cons_self) (H.alloc #[.int .u8 3, .int .u8 3, .int .i8 (-1)] 64)
  clear H
  refine C.mono ?_
  clear C
  rw [show ([⟨3, 3, -1⟩] : List Edg).filter keepE = [⟨3, 3, -1⟩] from by rfl]
  rintro e w5 ⟨vd, rfl, H⟩
  rw [round6c] at H
  replace H := H.drop (.there .here)
  go_wp2_with (go_skip)
  obtain ⟨aa, ca, rfl⟩ := OwnT.form0 (H.ok _ (List.mem_cons_of_mem _ (List.mem_cons_of_mem _ (List.mem_cons_of_mem _ List.mem_cons_self))))
  have S := sameParties_P (W := W) (l := Cel w5.heap.size #[.int .u8 1, .int .u8 2, .int .u8 4] 33 :: OwnT 33 1 vd [3].length ([3].map pv) :: OwnT 33 1 vc ([] : List Nat).length (([] : List Nat).map pv) :: OwnT 33 1 vb [1, 2, 3].length ([1, 2, 3].map pv) :: OwnT 33 1 (.slice aa 3 ca) [1, 2, 4].length ([1, 2, 4].map pv) :: Gr p c6 :: l) (A := [1, 2, 4]) (B := [1, 2, 4]) aa (some ⟨w5.heap.size, 0, none⟩) 3 ca 3 rfl rfl (by omega) (by simp) (by simp) (fun w' h => h.ownRd (List.mem_cons_of_mem _ (List.mem_cons_of_mem _ (List.mem_cons_of_mem _ (List.mem_cons_of_mem _ List.mem_cons_self))))) (fun w' h => h.celRd List.mem_cons_self)
  refine (S _ (H.alloc _ _)).mono ?_
  clear H S
  rintro e w6 ⟨rfl, H⟩
  replace H := H.tail
  go_wp2_with (go_skip)
  have C := short_H 4 1 (by omega) (by omega) (CapsOf.gr (W := W) (p := p) (c := c6) (List.mem_cons_of_mem _ (List.mem_cons_of_mem _ (List.mem_cons_of_mem _ (List.mem_cons_of_mem _ List.mem_cons_self))))) H
  clear H
  refine C.mono ?_
  clear C
  rintro e w7 ⟨ve, Le, rfl, hs, H⟩
  obtain rfl := short6b hs
  clear hs
  obtain ⟨ae, ce, rfl⟩ := OwnT.form0 (H.ok _ List.mem_cons_self)
  replace H := H.tail
  obtain ⟨ab, cb, rfl⟩ := OwnT.form0 (H.ok _ (List.mem_cons_of_mem _ (List.mem_cons_of_mem _ List.mem_cons_self)))
  obtain ⟨ac, cc, rfl⟩ := OwnT.form0 (H.ok _ (List.mem_cons_of_mem _ List.mem_cons_self))
  obtain ⟨ad, cd, rfl⟩ := OwnT.form0 (H.ok _ List.mem_cons_self)
  go_wp2_with (go_skip)
  have S := sameParties_P (W := W) (l := Cel w7.heap.size #[.int .u8 1, .int .u8 2, .int .u8 3] 33 :: OwnT 33 1 (.slice ad [3].length cd) [3].length ([3].map pv) :: OwnT 33 1 (.slice ac ([] : List Nat).length cc) ([] : List Nat).length (([] : List Nat).map pv) :: OwnT 33 1 (.slice ab [1, 2, 3].length cb) [1, 2, 3].length ([1, 2, 3].map pv) :: OwnT 33 1 (.slice aa 3 ca) [1, 2, 4].length ([1, 2, 4].map pv) :: Gr p c6 :: l) (A := [1, 2, 3]) (B := [1, 2, 3]) ab (some ⟨w7.heap.size, 0, none⟩) 3 cb 3 rfl rfl (by omega) (by simp) (by simp) (fun w' h => h.ownRd (List.mem_cons_of_mem _ (List.mem_cons_of_mem _ (List.mem_cons_of_mem _ List.mem_cons_self)))) (fun w' h => h.celRd List.mem_cons_self)
  refine (S _ (H.alloc _ _)).mono ?_
  clear H S
  rintro e w8 ⟨rfl, H⟩
  replace H := H.tail
  go_wp2_with (go_skip)
  have S := sameParties_P (W := W) (l := Cel w8.heap.size #[.int .u8 3] 33 :: OwnT 33 1 (.slice ad [3].length cd) [3].length ([3].map pv) :: OwnT 33 1 (.slice ac ([] : List Nat).length cc) ([] : List Nat).length (([] : List Nat).map pv) :: OwnT 33 1 (.slice ab [1, 2, 3].length cb) [1, 2, 3].length ([1, 2, 3].map pv) :: OwnT 33 1 (.slice aa 3 ca) [1, 2, 4].length ([1, 2, 4].map pv) :: Gr p c6 :: l) (A := [3]) (B := [3]) ad (some ⟨w8.heap.size, 0, none⟩) 1 cd 1 rfl rfl (by omega) (by simp) (by simp) (fun w' h => h.ownRd (List.mem_cons_of_mem _ List.mem_cons_self)) (fun w' h => h.celRd List.mem_cons_self)
  refine (S _ (H.alloc _ _)).mono ?_
  clear H S
  rintro e w9 ⟨rfl, H⟩
  replace H := H.tail.tail.tail.tail.tail.tail
  go_wp2_with (go_skip)
  go_ret
  exact ⟨rfl, H⟩
end
end Go.Proofs.Ytglehneaphigdaa
