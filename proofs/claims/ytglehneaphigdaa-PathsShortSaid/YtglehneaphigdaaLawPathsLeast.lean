/- PathsLeast: its walk. -/
import Derived.Test.YtglehneaphigdaaLives06
import Derived.Test.YtglehneaphigdaaLeft
import Derived.Test.YtglehneaphigdaaOpen05
namespace Go.Proofs.Ytglehneaphigdaa
open Go.RowKit
set_option linter.unusedSimpArgs false
set_option linter.unusedVariables false
section
variable {W w : World} {l : List Thing}
set_option maxRecDepth 100000
set_option maxHeartbeats 2000000
theorem least_many (a : Option Addr) (n c f t : Nat) (h : 300 < n) (hn : n ≤ 9223372036854775807) (H : Heap W l w) : Calls Try.prog 8 #[.slice a n c, .int .u8 (f : Int), .int .u8 (t : Int)] w fun e w' => e = .returned (.bool true) ∧ Heap W l w' := by
  have L := fun (V : World) (H : Heap W l V) => lives06_H (W := W) (l := l) (w := V) H
  go_enter Try.func8, Try.ntmps8
  go_wp2_with (first | go_skip | ((with_reducible refine (L _ H).mono ?_); clear H; rintro _ _ ⟨rfl, H⟩))
  go_ret
  exact ⟨rfl, H⟩
theorem short_zero {f t : Nat} {L : List Nat} (h : IsShort (fun _ _ => 0) f t L) : L = [] := by
  rcases h with ⟨h, _⟩ | ⟨_, _, hne, d, hd, h, _⟩
  · exact h
  · obtain ⟨q, hA, _⟩ := hd.par f h hne
    exfalso
    unfold edge capOf at hA
    split at hA <;> simp at hA
theorem short_bad {c : Caps} {f t : Nat} {L : List Nat} (h : IsShort c f t L) (hb : mayP f = false ∨ mayP t = false ∨ f = t) : L = [] := by
  rcases h with ⟨h, _⟩ | ⟨h1, h2, hne, _⟩
  · exact h
  · rcases hb with hb | hb | hb
    · rw [h1] at hb; cases hb
    · rw [h2] at hb; cases hb
    · exact absurd hb hne
theorem least_none (a : Option Addr) (n c0 f t : Nat) (F : List Flw) (h : n ≤ 300) (hl : F.length = n) (hF : ∀ x ∈ F, FlwOk x) (hf : f ≤ 255) (ht : t ≤ 255) (R : ∀ w', Heap W l w' → Rd w' a (flwL F)) (hG : newG F = none) (H : Heap W l w) : Calls Try.prog 8 #[.slice a n c0, .int .u8 (f : Int), .int .u8 (t : Int)] w fun e w' => e = .returned (.bool true) ∧ Heap W l w' := by
  have L := fun (V : World) (H : Heap W l V) => lives06_H (W := W) (l := l) (w := V) H
  have N := new_H (W := W) (l := l) (w := w) a n c0 F hl (by omega) hF R H
  rw [hG] at N
  have S := fun (V : World) (H : Heap W l V) => short_H (W := W) (l := l) (w := V) (gv := .pointer none) f t hf ht CapsOf.nil H
  clear hl hF R hG H
  go_enter Try.func8, Try.ntmps8
  go_wp2_with (first | go_skip | ((with_reducible refine N.mono ?_); clear N; rintro _ _ ⟨rfl, H⟩))
  refine (S _ H).mono ?_
  clear H S
  rintro e w2 ⟨v, La, rfl, hs, H⟩
  obtain rfl := short_zero hs
  clear hs
  obtain ⟨av, cv, rfl⟩ := OwnT.form0 (H.ok _ List.mem_cons_self)
  replace H := H.tail
  go_wp2_with (first | go_skip | ((with_reducible refine (L _ H).mono ?_); clear H; rintro _ _ ⟨rfl, H⟩))
  go_ret
  exact ⟨rfl, H⟩
theorem least_bad (a : Option Addr) (n c0 f t : Nat) (F : List Flw) (c : Caps) (h : n ≤ 300) (hl : F.length = n) (hF : ∀ x ∈ F, FlwOk x) (hf : f ≤ 255) (ht : t ≤ 255) (R : ∀ w', Heap W l w' → Rd w' a (flwL F)) (hG : newG F = some c) (hb : mayP f = false ∨ mayP t = false ∨ f = t)
    (B : (((f : Int) == (t : Int)) = true) ∨ (((f : Int) == (t : Int)) = false ∧ f < 1) ∨ (((f : Int) == (t : Int)) = false ∧ 1 ≤ f ∧ 16 < f) ∨ (((f : Int) == (t : Int)) = false ∧ 1 ≤ f ∧ f ≤ 16 ∧ t < 1) ∨ (((f : Int) == (t : Int)) = false ∧ 1 ≤ f ∧ f ≤ 16 ∧ 1 ≤ t ∧ 16 < t)) (H : Heap W l w) :
    Calls Try.prog 8 #[.slice a n c0, .int .u8 (f : Int), .int .u8 (t : Int)] w fun e w' => e = .returned (.bool true) ∧ Heap W l w' := by
  have L := fun (V : World) (H : Heap W l V) => lives06_H (W := W) (l := l) (w := V) H
  have N := new_H (W := W) (l := l) (w := w) a n c0 F hl (by omega) hF R H
  rw [hG] at N
  have S := fun (p : Nat) (V : World) (H : Heap W (Gr p c :: l) V) => short_H (W := W) (l := Gr p c :: l) (w := V) (gv := .pointer (some ⟨p, 0, none⟩)) f t hf ht (CapsOf.gr List.mem_cons_self) H
  clear hl hF R hG H
  have HB := Lib.hid hb
  clear hb
  rcases B with B | ⟨B, b1⟩ | ⟨B, b1, b2⟩ | ⟨B, b1, b2, b3⟩ | ⟨B, b1, b2, b3, b4⟩
  all_goals
    go_enter Try.func8, Try.ntmps8
    go_wp2_with (first | go_skip | ((with_reducible refine N.mono ?_); clear N; rintro _ _ ⟨p, rfl, H⟩))
    refine (S _ _ H).mono ?_
    clear H S
    rintro e w2 ⟨v, La, rfl, hs, H⟩
    obtain rfl := short_bad hs HB.out
    clear hs
    obtain ⟨av, cv, rfl⟩ := OwnT.form0 (H.ok _ List.mem_cons_self)
    replace H := H.tail.tail
    go_wp2_with (first | go_skip | ((with_reducible refine (L _ H).mono ?_); clear H; rintro _ _ ⟨rfl, H⟩))
    go_ret
    exact ⟨rfl, H⟩
end
end Go.Proofs.Ytglehneaphigdaa
