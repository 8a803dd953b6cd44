/- The walk of GraphsPair. -/
import Derived.Test.YtgobnamhdkbbeaaOfL
import Derived.Test.YtgobnamhdkbbeaaOpen03
namespace Go.Proofs.Ytgobnamhdkbbeaa
open Go.RowKit
set_option linter.unusedSimpArgs false
set_option linter.unusedVariables false
/-- What a push changes between x and y. -/
def pairD (a b : Nat) (n : Int) (x y : Nat) : Int := if x = a ∧ y = b then -n else if x = b ∧ y = a then n else 0
theorem pair_get {c : Caps} {a b : Nat} {n : Int} (hne : a ≠ b) (x y : Nat) : pushC c a b n x y = c x y + pairD a b n x y := by
  unfold pushC pairD upd2
  by_cases h1 : x = a ∧ y = b
  · obtain ⟨rfl, rfl⟩ := h1
    simp [hne]
    omega
  · by_cases h2 : x = b ∧ y = a
    · obtain ⟨rfl, rfl⟩ := h2
      simp [hne, Ne.symm hne]
    · simp [h1, h2]
theorem mayP_iff (a : Nat) : mayP a = true ↔ 1 ≤ a ∧ a ≤ 16 := by simp [mayP]
section
variable {S : Lgr}
theorem capsS_in (G : S.Good) {c : Int} {a b : Nat} (h : capsS S c a b ≠ 0) : a ≠ b ∧ 1 ≤ a ∧ a ≤ 16 ∧ 1 ≤ b ∧ b ≤ 16 := by
  have h1 := fun e => h (G.room0 (f := a) (t := b) c (.inl e))
  have h2 : (a : Int) ∈ S.P := Decidable.byContradiction fun e => h (G.room0 (f := a) (t := b) c (.inr (.inl e)))
  have h3 : (b : Int) ∈ S.P := Decidable.byContradiction fun e => h (G.room0 (f := a) (t := b) c (.inr (.inr e)))
  have b1 := G.par1 _ h2
  have b2 := G.par1 _ h3
  exact ⟨fun e => h1 (by rw [e]), by omega, by omega, by omega, by omega⟩
theorem capsS_cap (G : S.Good) (c : Int) (a b : Nat) : capOf (capsS S c) a b = capsS S c a b := by
  unfold capOf
  split
  · rfl
  · rename_i h
    refine (Decidable.byContradiction fun e => ?_ : capsS S c a b = 0).symm
    have := capsS_in G e
    exact h ⟨(mayP_iff a).2 (by omega), (mayP_iff b).2 (by omega)⟩
theorem push_cap (G : S.Good) (c : Int) {a b : Nat} {n : Int} (hn : 1 ≤ n) (hc : n ≤ capsS S c a b) (x y : Nat) : capOf (pushC (capsS S c) a b n) x y = capsS S c x y + pairD a b n x y := by
  have hab := capsS_in G (show capsS S c a b ≠ 0 by omega)
  unfold capOf
  split
  · exact pair_get hab.1 x y
  · rename_i h
    have e0 : capsS S c x y = 0 := Decidable.byContradiction fun e => by
      have := capsS_in G e
      exact h ⟨(mayP_iff x).2 (by omega), (mayP_iff y).2 (by omega)⟩
    have e1 : pairD a b n x y = 0 := by
      unfold pairD
      rw [if_neg, if_neg]
      · rintro ⟨rfl, rfl⟩; exact h ⟨(mayP_iff _).2 (by omega), (mayP_iff _).2 (by omega)⟩
      · rintro ⟨rfl, rfl⟩; exact h ⟨(mayP_iff _).2 (by omega), (mayP_iff _).2 (by omega)⟩
    rw [e0, e1]; rfl
/-- None is pushed below nothing. -/
theorem pair_pos (G : S.Good) (c : Int) {a b : Nat} {n : Int} (hn : 1 ≤ n) (hc : n ≤ capsS S c a b) (x y : Nat) : 0 ≤ capsS S c x y + pairD a b n x y ∧ capsS S c x y + pairD a b n x y ≤ 4398046511104 ∧ 0 ≤ capsS S c x y ∧ capsS S c x y ≤ 2199023255552 := by
  have h1 := G.room x y c
  have h2 := G.room a b c
  unfold capsS at *
  refine ⟨?_, ?_, h1.1, h1.2⟩
  · unfold pairD
    split
    · rename_i h; obtain ⟨rfl, rfl⟩ := h; omega
    · split <;> omega
  · unfold pairD
    split
    · omega
    · split <;> omega
end
/-- A loop over the parties: nothing changes. -/
structure PairL (W : World) (l : List Thing) (i : Value) (wr : World) : Prop where
  out : ∃ k : Nat, k ≤ 18 ∧ i = .int .u8 (k : Int) ∧ Heap W l wr
set_option maxRecDepth 100000
set_option maxHeartbeats 8000000
theorem graphsPair_great (w : World) (ea : Option Addr) (an ac cu : Nat) (a b : Nat) (n : Int) (hn : 120 < an) (hm : an ≤ maxLen) :
    Calls Try.prog 4 #[.slice ea an ac, .int .u8 (cu : Int), .agg (flow a b n)] w fun e w' => e = .returned (.bool true) ∧ Below w.heap.size w w' := by
  have H := Heap.start w
  have hcnt : 120 < (an : Int) := by omega
  unfold maxLen at hm
  go_enter Try.func4, Try.ntmps4
  go_wp2_with (first | go_skip | ((with_reducible show wpList _ _ _ (_ :: _) _ _); (with_reducible apply wpl_boxRH); (· rfl); (· rfl); (· exact H); (clear H; intro px _ H); (simp only [Act.put, List.setIfInBounds_toArray, List.set_cons_zero, List.set_cons_succ])))
  refine (lives05_H H).mono ?_
  clear H
  rintro e w7 ⟨rfl, H⟩
  go_wp2_with (go_skip)
  go_ret
  exact ⟨rfl, H.low⟩

theorem graphsPair_arg (w : World) (ea : Option Addr) (an ac cu : Nat) (F : List LAct) (a b : Nat) (n : Int) (hl : F.length = an) (hn : an ≤ 120) (hF : ∀ x ∈ F, ActOk x) (R : Rd w ea (actL F)) (hc : cu ≤ 255) (ha : a ≤ 255) (hb : b ≤ 255) (hr : -9223372036854775808 ≤ n ∧ n ≤ 9223372036854775807) (hp : n < 1) :
    Calls Try.prog 4 #[.slice ea an ac, .int .u8 (cu : Int), .agg (flow a b n)] w fun e w' => e = .returned (.bool true) ∧ Below w.heap.size w w' := by
  have HX := Lib.hid hp
  clear hp
  have H := Heap.start w
  have hcnt : ¬ (120 < (an : Int)) := by omega
  have HR := Lib.hid R
  have HL := Lib.hid hl
  have HF := Lib.hid hF
  clear R hl hF
  go_enter Try.func4, Try.ntmps4
  go_wp2_with (first | go_skip | ((with_reducible show wpList _ _ _ (_ :: _) _ _); (with_reducible apply wpl_boxRH); (· rfl); (· rfl); (· exact H); (clear H; intro px _ H); (simp only [Act.put, List.setIfInBounds_toArray, List.set_cons_zero, List.set_cons_succ])))
  refine (made_H ea an ac F HL.out hn HF.out (fun l' w' _ H' => HR.out.below H'.low) H).mono ?_
  clear H
  rintro e w1 ⟨p, q, rfl, H⟩
  have HG := Lib.hid (madeS_good F)
  generalize hS : madeS F = S at *
  clear hS
  go_wp2_with (go_skip)
  refine (of_H (p := p) (q := q) (S := S) cu hc HG.out H (by (repeat (first | (with_reducible exact List.mem_cons_self) | with_reducible apply List.mem_cons_of_mem))) (by (repeat (first | (with_reducible exact List.mem_cons_self) | with_reducible apply List.mem_cons_of_mem)))).mono ?_
  clear H
  rintro e w2 ⟨pg, rfl, H⟩
  go_wp2_with (go_skip)
  refine (copy_H (p := pg) (c := capsS S cu) H (by (repeat (first | (with_reducible exact List.mem_cons_self) | with_reducible apply List.mem_cons_of_mem)))).mono ?_
  clear H
  rintro e w3 ⟨pc, rfl, H⟩
  go_wp2_with (first | go_skip | ((with_reducible show wpList _ _ _ (_ :: _) _ _); (with_reducible apply wpl_loadCH); (· first | exact cell_party | exact cell_i64); (· rfl); (· rfl); (· exact H); (· (repeat (first | (with_reducible exact List.mem_cons_self) | with_reducible apply List.mem_cons_of_mem))); (· (with_reducible first | exact flow_g0 .. | exact flow_g1 .. | exact flow_g2 ..)); (simp only [Act.put, List.setIfInBounds_toArray, List.set_cons_zero, List.set_cons_succ])))
  have R1 := cap_H (W := w) (l := [Gr pc (capsS S cu), Gr pg (capsS S cu), LdC p S.P (some q), LdM q S.L, Cel px (flow a b n) 32]) (p := pc) (c := capsS S cu) a b ha hb (by (repeat (first | (with_reducible exact List.mem_cons_self) | with_reducible apply List.mem_cons_of_mem)))
  rw [capsS_cap HG.out] at R1
  have T1 := same_ans (W := w) (l := [Gr pc (capsS S cu), Gr pg (capsS S cu), LdC p S.P (some q), LdM q S.L, Cel px (flow a b n) 32]) (c := capsS S cu) (d := capsS S cu) (.pointer (some ⟨pg, 0, none⟩)) (.pointer (some ⟨pc, 0, none⟩)) (all_H (p := pg) (m := true) (by (repeat (first | (with_reducible exact List.mem_cons_self) | with_reducible apply List.mem_cons_of_mem))) (fun h => by cases h)) (all_H (p := pc) (m := true) (by (repeat (first | (with_reducible exact List.mem_cons_self) | with_reducible apply List.mem_cons_of_mem))) (fun h => by cases h))
  rw [show matSame (capsS S cu) (capsS S cu) = true from matSame_iff.2 (fun _ _ _ _ => rfl)] at T1
  have T2 : AnsH w [Gr pc (capsS S cu), Gr pg (capsS S cu), LdC p S.P (some q), LdM q S.L, Cel px (flow a b n) 32] 12 #[] (.bool true) := fun w' H' => lives05_H H' 
  refine (push_arg a b n (p := pg) (c := capsS S cu) (by (repeat (first | (with_reducible exact List.mem_cons_self) | with_reducible apply List.mem_cons_of_mem))) HX.out _ H).mono ?_
  clear H
  rintro e w4 ⟨rfl, H⟩
  have t1 : decide (n < 1) = true := decide_eq_true HX.out
  go_wp2_with (go_skip)
  refine wp_region_H H (by kernel_rfl) (by kernel_rfl) ?_
  repeat (first | go_big_quiet_skip | ((with_reducible apply wpQ_loadCH); (· first | exact cell_party | exact cell_i64); (· rfl); (· rfl); (· (repeat (first | (with_reducible exact List.mem_cons_self) | with_reducible apply List.mem_cons_of_mem))); (· (with_reducible first | exact flow_g0 .. | exact flow_g1 .. | exact flow_g2 ..)); (simp only [Act.put, List.setIfInBounds_toArray, List.set_cons_zero, List.set_cons_succ])) | go_big_quiet_step ((with_reducible first | exact AnsH.quiet (by assumption) | exact Ans.quietH (by assumption))))
  refine wpQuiet_nil ?_
  clear H
  intro _ H
  go_wp2_with (go_skip)
  go_ret
  exact ⟨rfl, H.low⟩
theorem graphsPair_route (w : World) (ea : Option Addr) (an ac cu : Nat) (F : List LAct) (a b : Nat) (n : Int) (hl : F.length = an) (hn : an ≤ 120) (hF : ∀ x ∈ F, ActOk x) (R : Rd w ea (actL F)) (hc : cu ≤ 255) (ha : a ≤ 255) (hb : b ≤ 255) (hr : -9223372036854775808 ≤ n ∧ n ≤ 9223372036854775807) (h1 : ¬ n < 1) (hp : capsS (madeS F) cu a b < n) :
    Calls Try.prog 4 #[.slice ea an ac, .int .u8 (cu : Int), .agg (flow a b n)] w fun e w' => e = .returned (.bool true) ∧ Below w.heap.size w w' := by
  have HX := Lib.hid (And.intro h1 hp)
  clear h1 hp
  have H := Heap.start w
  have hcnt : ¬ (120 < (an : Int)) := by omega
  have HR := Lib.hid R
  have HL := Lib.hid hl
  have HF := Lib.hid hF
  clear R hl hF
  go_enter Try.func4, Try.ntmps4
  go_wp2_with (first | go_skip | ((with_reducible show wpList _ _ _ (_ :: _) _ _); (with_reducible apply wpl_boxRH); (· rfl); (· rfl); (· exact H); (clear H; intro px _ H); (simp only [Act.put, List.setIfInBounds_toArray, List.set_cons_zero, List.set_cons_succ])))
  refine (made_H ea an ac F HL.out hn HF.out (fun l' w' _ H' => HR.out.below H'.low) H).mono ?_
  clear H
  rintro e w1 ⟨p, q, rfl, H⟩
  have HG := Lib.hid (madeS_good F)
  generalize hS : madeS F = S at *
  clear hS
  go_wp2_with (go_skip)
  refine (of_H (p := p) (q := q) (S := S) cu hc HG.out H (by (repeat (first | (with_reducible exact List.mem_cons_self) | with_reducible apply List.mem_cons_of_mem))) (by (repeat (first | (with_reducible exact List.mem_cons_self) | with_reducible apply List.mem_cons_of_mem)))).mono ?_
  clear H
  rintro e w2 ⟨pg, rfl, H⟩
  go_wp2_with (go_skip)
  refine (copy_H (p := pg) (c := capsS S cu) H (by (repeat (first | (with_reducible exact List.mem_cons_self) | with_reducible apply List.mem_cons_of_mem)))).mono ?_
  clear H
  rintro e w3 ⟨pc, rfl, H⟩
  go_wp2_with (first | go_skip | ((with_reducible show wpList _ _ _ (_ :: _) _ _); (with_reducible apply wpl_loadCH); (· first | exact cell_party | exact cell_i64); (· rfl); (· rfl); (· exact H); (· (repeat (first | (with_reducible exact List.mem_cons_self) | with_reducible apply List.mem_cons_of_mem))); (· (with_reducible first | exact flow_g0 .. | exact flow_g1 .. | exact flow_g2 ..)); (simp only [Act.put, List.setIfInBounds_toArray, List.set_cons_zero, List.set_cons_succ])))
  have R1 := cap_H (W := w) (l := [Gr pc (capsS S cu), Gr pg (capsS S cu), LdC p S.P (some q), LdM q S.L, Cel px (flow a b n) 32]) (p := pc) (c := capsS S cu) a b ha hb (by (repeat (first | (with_reducible exact List.mem_cons_self) | with_reducible apply List.mem_cons_of_mem)))
  rw [capsS_cap HG.out] at R1
  have T1 := same_ans (W := w) (l := [Gr pc (capsS S cu), Gr pg (capsS S cu), LdC p S.P (some q), LdM q S.L, Cel px (flow a b n) 32]) (c := capsS S cu) (d := capsS S cu) (.pointer (some ⟨pg, 0, none⟩)) (.pointer (some ⟨pc, 0, none⟩)) (all_H (p := pg) (m := true) (by (repeat (first | (with_reducible exact List.mem_cons_self) | with_reducible apply List.mem_cons_of_mem))) (fun h => by cases h)) (all_H (p := pc) (m := true) (by (repeat (first | (with_reducible exact List.mem_cons_self) | with_reducible apply List.mem_cons_of_mem))) (fun h => by cases h))
  rw [show matSame (capsS S cu) (capsS S cu) = true from matSame_iff.2 (fun _ _ _ _ => rfl)] at T1
  have T2 : AnsH w [Gr pc (capsS S cu), Gr pg (capsS S cu), LdC p S.P (some q), LdM q S.L, Cel px (flow a b n) 32] 12 #[] (.bool true) := fun w' H' => lives05_H H' 
  refine (push_route a b n ha hb (p := pg) (c := capsS S cu) (by (repeat (first | (with_reducible exact List.mem_cons_self) | with_reducible apply List.mem_cons_of_mem))) (by have := HX.out.1; omega) (by rw [capsS_cap HG.out]; exact HX.out.2) _ H).mono ?_
  clear H
  rintro e w4 ⟨rfl, H⟩
  have HX2 := HX.out.2
  have hrm := HG.out.room a b cu
  generalize hv : capsS S cu a b = v at *
  have t1 : decide (n > v) = true := decide_eq_true HX2
  have t2 : decide (v < n) = true := decide_eq_true HX2
  go_wp2_with (go_skip)
  refine wp_region_H H (by kernel_rfl) (by kernel_rfl) ?_
  repeat (first | go_big_quiet_skip | ((with_reducible apply wpQ_loadCH); (· first | exact cell_party | exact cell_i64); (· rfl); (· rfl); (· (repeat (first | (with_reducible exact List.mem_cons_self) | with_reducible apply List.mem_cons_of_mem))); (· (with_reducible first | exact flow_g0 .. | exact flow_g1 .. | exact flow_g2 ..)); (simp only [Act.put, List.setIfInBounds_toArray, List.set_cons_zero, List.set_cons_succ])) | go_big_quiet_step ((with_reducible first | exact AnsH.quiet (by assumption) | exact Ans.quietH (by assumption))))
  refine wpQuiet_nil ?_
  clear H
  intro _ H
  go_wp2_with (go_skip)
  go_ret
  exact ⟨rfl, H.low⟩
theorem graphsPair_yes (w : World) (ea : Option Addr) (an ac cu : Nat) (F : List LAct) (a b : Nat) (n : Int) (hl : F.length = an) (hn : an ≤ 120) (hF : ∀ x ∈ F, ActOk x) (R : Rd w ea (actL F)) (hc : cu ≤ 255) (ha : a ≤ 255) (hb : b ≤ 255) (hr : -9223372036854775808 ≤ n ∧ n ≤ 9223372036854775807) (h1 : 1 ≤ n) (hp : n ≤ capsS (madeS F) cu a b) :
    Calls Try.prog 4 #[.slice ea an ac, .int .u8 (cu : Int), .agg (flow a b n)] w fun e w' => e = .returned (.bool true) ∧ Below w.heap.size w w' := by
  have HX := Lib.hid (And.intro h1 hp)
  clear h1 hp
  have H := Heap.start w
  have hcnt : ¬ (120 < (an : Int)) := by omega
  have HR := Lib.hid R
  have HL := Lib.hid hl
  have HF := Lib.hid hF
  clear R hl hF
  go_enter Try.func4, Try.ntmps4
  go_wp2_with (first | go_skip | ((with_reducible show wpList _ _ _ (_ :: _) _ _); (with_reducible apply wpl_boxRH); (· rfl); (· rfl); (· exact H); (clear H; intro px _ H); (simp only [Act.put, List.setIfInBounds_toArray, List.set_cons_zero, List.set_cons_succ])))
  refine (made_H ea an ac F HL.out hn HF.out (fun l' w' _ H' => HR.out.below H'.low) H).mono ?_
  clear H
  rintro e w1 ⟨p, q, rfl, H⟩
  have HG := Lib.hid (madeS_good F)
  generalize hS : madeS F = S at *
  clear hS
  go_wp2_with (go_skip)
  refine (of_H (p := p) (q := q) (S := S) cu hc HG.out H (by (repeat (first | (with_reducible exact List.mem_cons_self) | with_reducible apply List.mem_cons_of_mem))) (by (repeat (first | (with_reducible exact List.mem_cons_self) | with_reducible apply List.mem_cons_of_mem)))).mono ?_
  clear H
  rintro e w2 ⟨pg, rfl, H⟩
  go_wp2_with (go_skip)
  refine (copy_H (p := pg) (c := capsS S cu) H (by (repeat (first | (with_reducible exact List.mem_cons_self) | with_reducible apply List.mem_cons_of_mem)))).mono ?_
  clear H
  rintro e w3 ⟨pc, rfl, H⟩
  go_wp2_with (first | go_skip | ((with_reducible show wpList _ _ _ (_ :: _) _ _); (with_reducible apply wpl_loadCH); (· first | exact cell_party | exact cell_i64); (· rfl); (· rfl); (· exact H); (· (repeat (first | (with_reducible exact List.mem_cons_self) | with_reducible apply List.mem_cons_of_mem))); (· (with_reducible first | exact flow_g0 .. | exact flow_g1 .. | exact flow_g2 ..)); (simp only [Act.put, List.setIfInBounds_toArray, List.set_cons_zero, List.set_cons_succ])))
  have hab := capsS_in HG.out (show capsS S cu a b ≠ 0 by have := HX.out; omega)
  have hne := hab.1
  have hrm := HG.out.room a b cu
  have hrm2 := HG.out.room b a cu
  have hu : upd2 (capsS S cu) a b (capsS S cu a b - n) b a = capsS S cu b a := by unfold upd2; rw [if_neg (fun e => hne e.1.symm)]
  have hm1 : capsS S cu a b ≤ 2199023255552 := hrm.2
  have hm2 : 0 ≤ capsS S cu b a ∧ capsS S cu b a ≤ 2199023255552 := hrm2
  have h2 := HX.out.1
  have h3 := HX.out.2
  refine (push_ok (p := pg) (c := capsS S cu) a b n hab.2.1 hab.2.2.1 hab.2.2.2.1 hab.2.2.2.2 (H.pull (.there .here)) h2 h3 (by omega) (by omega) (by omega)).mono ?_
  clear H
  rintro e w4 ⟨rfl, H⟩
  have HC := Lib.hid (fun x y : Nat => push_cap HG.out cu h2 h3 x y)
  have HB := Lib.hid (fun x y : Nat => pair_pos HG.out cu h2 h3 x y)
  have HN := Lib.hid (show ∀ c0 : Caps, c0 = c0 from fun _ => rfl)
  generalize hD : pushC (capsS S cu) a b n = D at *
  clear hD hu hm1 hm2 hrm hrm2
  have HH := Lib.hid hab
  have h23 := Lib.hid (And.intro h2 h3)
  clear hab h3
  go_wp2_with (go_skip)
  have H0 := H
  clear H
  go_loopw [10] (fun i wr => PairL w [Gr pg D, Gr pc (capsS S cu), LdC p S.P (some q), LdM q S.L, Cel px (flow a b n) 32] i wr) (fun i _ => 18 - (intOf i).toNat)
  case atStart => exact ⟨0, by omega, rfl, H0⟩
  case round =>
    obtain ⟨k, hk, rfl, H⟩ := hrel.out
    clear H0 hrel
    by_cases hlt : k < 18
    · go_wp2_with (go_skip)
      have hdk : decide ((k : Int) < 18) = true := decide_eq_true (by omega)
      rw [hdk]
      clear hdk
      have HK := Lib.hid hlt
      clear hlt
      have H0 := H
      clear H
      go_loopw [11] (fun i wr => PairL w [Gr pg D, Gr pc (capsS S cu), LdC p S.P (some q), LdM q S.L, Cel px (flow a b n) 32] i wr) (fun i _ => 18 - (intOf i).toNat)
      case atStart => exact ⟨0, by omega, rfl, H0⟩
      case round =>
        obtain ⟨j, hj, rfl, H⟩ := hrel.out
        clear H0 hrel
        by_cases hjt : j < 18
        · have R1 := cap_H (W := w) (l := [Gr pg D, Gr pc (capsS S cu), LdC p S.P (some q), LdM q S.L, Cel px (flow a b n) 32]) (p := pg) (c := D) k j (by omega) (by omega) (by (repeat (first | (with_reducible exact List.mem_cons_self) | with_reducible apply List.mem_cons_of_mem)))
          have R2 := cap_H (W := w) (l := [Gr pg D, Gr pc (capsS S cu), LdC p S.P (some q), LdM q S.L, Cel px (flow a b n) 32]) (p := pc) (c := capsS S cu) k j (by omega) (by omega) (by (repeat (first | (with_reducible exact List.mem_cons_self) | with_reducible apply List.mem_cons_of_mem)))
          rw [HC.out k j] at R1
          rw [capsS_cap HG.out] at R2
          have hv := HB.out k j
          generalize capsS S cu k j = v at *
          have hmain : (∃ g1 g2 g3 g4 : Bool, True) := ⟨true, true, true, true, trivial⟩
          clear hmain
          rcases (show (k = a ∧ j = b) ∨ (k = a ∧ j ≠ b) ∨ (k = b ∧ j = a) ∨ (k = b ∧ j ≠ a) ∨ (k ≠ a ∧ k ≠ b) from by omega) with e | e | e | e | e
          · have hd : pairD a b n k j = (-n) := by unfold pairD; rw [if_pos e]
            rw [hd] at hv R1
            clear hd
            have g1 : ((k : Int) == (a : Int)) = true := by simp [e]
            have g2 : ((j : Int) == (b : Int)) = true := by simp [e]
            have g3 : ((k : Int) == (b : Int)) = false := by have := e; have := hne; simp; omega
            have e1 : wrap64 (v + (-n) - v) = (-n) := by rw [show v + (-n) - v = (-n) by omega]; exact IntWalk.wrap64_in _ ⟨by omega, by omega⟩
            have e2 : wrap64 (-n) = -n := IntWalk.wrap64_in _ ⟨by omega, by omega⟩
            have e3 : decide (v + (-n) < 0) = false := decide_eq_false (by omega)
            have e4 : (-n != -n) = false := by simp
            have e5 : (n != n) = false := by simp
            generalize hz : v + (-n) = z at *
            clear hz
            clear e hv
            go_wp2_with (first | go_skip | ((with_reducible refine AnsH.call (by assumption) H ?_); clear H; intro _ H) | ((with_reducible show wpList _ _ _ (_ :: _) _ _); (with_reducible apply wpl_loadCH); (· first | exact cell_party | exact cell_i64); (· rfl); (· rfl); (· exact H); (· (repeat (first | (with_reducible exact List.mem_cons_self) | with_reducible apply List.mem_cons_of_mem))); (· (with_reducible first | exact flow_g0 .. | exact flow_g1 .. | exact flow_g2 ..)); (simp only [Act.put, List.setIfInBounds_toArray, List.set_cons_zero, List.set_cons_succ])))
            refine ⟨⟨j + 1, by omega, by go_num, H⟩, ?measure⟩
            case measure => simp [intOf]; omega
          · have hd : pairD a b n k j = 0 := by unfold pairD; rw [if_neg (by have := e; have := hne; omega), if_neg (by have := e; have := hne; omega)]
            rw [hd] at hv R1
            clear hd
            have g1 : ((k : Int) == (a : Int)) = true := by simp [e]
            have g2 : ((j : Int) == (b : Int)) = false := by have := e; have := hne; simp; omega
            have g3 : ((k : Int) == (b : Int)) = false := by have := e; have := hne; simp; omega
            have e1 : wrap64 (v + 0 - v) = 0 := by rw [show v + 0 - v = 0 by omega]; exact IntWalk.wrap64_in _ ⟨by omega, by omega⟩
            have e2 : wrap64 (-n) = -n := IntWalk.wrap64_in _ ⟨by omega, by omega⟩
            have e3 : decide (v + 0 < 0) = false := decide_eq_false (by omega)
            have e4 : (-n != -n) = false := by simp
            have e5 : (n != n) = false := by simp
            generalize hz : v + 0 = z at *
            clear hz
            clear e hv
            go_wp2_with (first | go_skip | ((with_reducible refine AnsH.call (by assumption) H ?_); clear H; intro _ H) | ((with_reducible show wpList _ _ _ (_ :: _) _ _); (with_reducible apply wpl_loadCH); (· first | exact cell_party | exact cell_i64); (· rfl); (· rfl); (· exact H); (· (repeat (first | (with_reducible exact List.mem_cons_self) | with_reducible apply List.mem_cons_of_mem))); (· (with_reducible first | exact flow_g0 .. | exact flow_g1 .. | exact flow_g2 ..)); (simp only [Act.put, List.setIfInBounds_toArray, List.set_cons_zero, List.set_cons_succ])))
            refine ⟨⟨j + 1, by omega, by go_num, H⟩, ?measure⟩
            case measure => simp [intOf]; omega
          · have hd : pairD a b n k j = n := by unfold pairD; rw [if_neg (by have := e; have := hne; omega), if_pos e]
            rw [hd] at hv R1
            clear hd
            have g1 : ((k : Int) == (a : Int)) = false := by have := e; have := hne; simp; omega
            have g3 : ((k : Int) == (b : Int)) = true := by simp [e]
            have g4 : ((j : Int) == (a : Int)) = true := by simp [e]
            have e1 : wrap64 (v + n - v) = n := by rw [show v + n - v = n by omega]; exact IntWalk.wrap64_in _ ⟨by omega, by omega⟩
            have e2 : wrap64 (-n) = -n := IntWalk.wrap64_in _ ⟨by omega, by omega⟩
            have e3 : decide (v + n < 0) = false := decide_eq_false (by omega)
            have e4 : (-n != -n) = false := by simp
            have e5 : (n != n) = false := by simp
            generalize hz : v + n = z at *
            clear hz
            clear e hv
            go_wp2_with (first | go_skip | ((with_reducible refine AnsH.call (by assumption) H ?_); clear H; intro _ H) | ((with_reducible show wpList _ _ _ (_ :: _) _ _); (with_reducible apply wpl_loadCH); (· first | exact cell_party | exact cell_i64); (· rfl); (· rfl); (· exact H); (· (repeat (first | (with_reducible exact List.mem_cons_self) | with_reducible apply List.mem_cons_of_mem))); (· (with_reducible first | exact flow_g0 .. | exact flow_g1 .. | exact flow_g2 ..)); (simp only [Act.put, List.setIfInBounds_toArray, List.set_cons_zero, List.set_cons_succ])))
            refine ⟨⟨j + 1, by omega, by go_num, H⟩, ?measure⟩
            case measure => simp [intOf]; omega
          · have hd : pairD a b n k j = 0 := by unfold pairD; rw [if_neg (by have := e; have := hne; omega), if_neg (by have := e; have := hne; omega)]
            rw [hd] at hv R1
            clear hd
            have g1 : ((k : Int) == (a : Int)) = false := by have := e; have := hne; simp; omega
            have g3 : ((k : Int) == (b : Int)) = true := by simp [e]
            have g4 : ((j : Int) == (a : Int)) = false := by have := e; have := hne; simp; omega
            have e1 : wrap64 (v + 0 - v) = 0 := by rw [show v + 0 - v = 0 by omega]; exact IntWalk.wrap64_in _ ⟨by omega, by omega⟩
            have e2 : wrap64 (-n) = -n := IntWalk.wrap64_in _ ⟨by omega, by omega⟩
            have e3 : decide (v + 0 < 0) = false := decide_eq_false (by omega)
            have e4 : (-n != -n) = false := by simp
            have e5 : (n != n) = false := by simp
            generalize hz : v + 0 = z at *
            clear hz
            clear e hv
            go_wp2_with (first | go_skip | ((with_reducible refine AnsH.call (by assumption) H ?_); clear H; intro _ H) | ((with_reducible show wpList _ _ _ (_ :: _) _ _); (with_reducible apply wpl_loadCH); (· first | exact cell_party | exact cell_i64); (· rfl); (· rfl); (· exact H); (· (repeat (first | (with_reducible exact List.mem_cons_self) | with_reducible apply List.mem_cons_of_mem))); (· (with_reducible first | exact flow_g0 .. | exact flow_g1 .. | exact flow_g2 ..)); (simp only [Act.put, List.setIfInBounds_toArray, List.set_cons_zero, List.set_cons_succ])))
            refine ⟨⟨j + 1, by omega, by go_num, H⟩, ?measure⟩
            case measure => simp [intOf]; omega
          · have hd : pairD a b n k j = 0 := by unfold pairD; rw [if_neg (by have := e; have := hne; omega), if_neg (by have := e; have := hne; omega)]
            rw [hd] at hv R1
            clear hd
            have g1 : ((k : Int) == (a : Int)) = false := by have := e; have := hne; simp; omega
            have g3 : ((k : Int) == (b : Int)) = false := by have := e; have := hne; simp; omega
            have e1 : wrap64 (v + 0 - v) = 0 := by rw [show v + 0 - v = 0 by omega]; exact IntWalk.wrap64_in _ ⟨by omega, by omega⟩
            have e2 : wrap64 (-n) = -n := IntWalk.wrap64_in _ ⟨by omega, by omega⟩
            have e3 : decide (v + 0 < 0) = false := decide_eq_false (by omega)
            have e4 : (-n != -n) = false := by simp
            have e5 : (n != n) = false := by simp
            generalize hz : v + 0 = z at *
            clear hz
            clear e hv
            go_wp2_with (first | go_skip | ((with_reducible refine AnsH.call (by assumption) H ?_); clear H; intro _ H) | ((with_reducible show wpList _ _ _ (_ :: _) _ _); (with_reducible apply wpl_loadCH); (· first | exact cell_party | exact cell_i64); (· rfl); (· rfl); (· exact H); (· (repeat (first | (with_reducible exact List.mem_cons_self) | with_reducible apply List.mem_cons_of_mem))); (· (with_reducible first | exact flow_g0 .. | exact flow_g1 .. | exact flow_g2 ..)); (simp only [Act.put, List.setIfInBounds_toArray, List.set_cons_zero, List.set_cons_succ])))
            refine ⟨⟨j + 1, by omega, by go_num, H⟩, ?measure⟩
            case measure => simp [intOf]; omega
        · obtain rfl : j = 18 := by omega
          go_wp2_with (go_skip)
          refine ⟨⟨k + 1, HK.out, by go_num, H⟩, ?measure2⟩
          case measure2 => have := HK.out; simp [intOf]; omega
    · obtain rfl : k = 18 := by omega
      have R1 := cap_H (W := w) (l := [Gr pg D, Gr pc (capsS S cu), LdC p S.P (some q), LdM q S.L, Cel px (flow a b n) 32]) (p := pg) (c := D) a b ha hb (by (repeat (first | (with_reducible exact List.mem_cons_self) | with_reducible apply List.mem_cons_of_mem)))
      have R2 := cap_H (W := w) (l := [Gr pg D, Gr pc (capsS S cu), LdC p S.P (some q), LdM q S.L, Cel px (flow a b n) 32]) (p := pg) (c := D) b a hb ha (by (repeat (first | (with_reducible exact List.mem_cons_self) | with_reducible apply List.mem_cons_of_mem)))
      have R3 := cap_H (W := w) (l := [Gr pg D, Gr pc (capsS S cu), LdC p S.P (some q), LdM q S.L, Cel px (flow a b n) 32]) (p := pc) (c := capsS S cu) a b ha hb (by (repeat (first | (with_reducible exact List.mem_cons_self) | with_reducible apply List.mem_cons_of_mem)))
      have R4 := cap_H (W := w) (l := [Gr pg D, Gr pc (capsS S cu), LdC p S.P (some q), LdM q S.L, Cel px (flow a b n) 32]) (p := pc) (c := capsS S cu) b a hb ha (by (repeat (first | (with_reducible exact List.mem_cons_self) | with_reducible apply List.mem_cons_of_mem)))
      rw [HC.out a b] at R1
      rw [HC.out b a] at R2
      rw [capsS_cap HG.out] at R3 R4
      have d1 : pairD a b n a b = -n := by unfold pairD; rw [if_pos ⟨rfl, rfl⟩]
      have d2 : pairD a b n b a = n := by unfold pairD; rw [if_neg (by have := hne; omega), if_pos ⟨rfl, rfl⟩]
      have v1 := HB.out a b
      have v2 := HB.out b a
      rw [d1] at R1 v1
      rw [d2] at R2 v2
      clear d1 d2
      generalize capsS S cu a b = x at *
      generalize capsS S cu b a = y at *
      have T2 : AnsH w [Gr pg D, Gr pc (capsS S cu), LdC p S.P (some q), LdM q S.L, Cel px (flow a b n) 32] 12 #[] (.bool true) := fun w' H' => lives05_H H'
      have e0 : x + -n + (y + n) = x + y := by omega
      generalize x + -n = z1 at *
      generalize y + n = z2 at *
      have e1 : wrap64 (z1 + z2) = wrap64 (x + y) := by rw [e0]
      clear e0 v1 v2
      obtain ⟨s, e2⟩ : ∃ s, wrap64 (x + y) = s := ⟨_, rfl⟩
      rw [e2] at e1
      have e3 : (s == s) = true := by simp
      go_wp2_with (go_skip)
      refine wp_region_H H (by kernel_rfl) (by kernel_rfl) ?_
      repeat (first | go_big_quiet_skip | ((with_reducible apply wpQ_loadCH); (· first | exact cell_party | exact cell_i64); (· rfl); (· rfl); (· (repeat (first | (with_reducible exact List.mem_cons_self) | with_reducible apply List.mem_cons_of_mem))); (· (with_reducible first | exact flow_g0 .. | exact flow_g1 .. | exact flow_g2 ..)); (simp only [Act.put, List.setIfInBounds_toArray, List.set_cons_zero, List.set_cons_succ])) | go_big_quiet_step ((with_reducible first | exact AnsH.quiet (by assumption) | exact Ans.quietH (by assumption))))
      refine wpQuiet_nil ?_
      clear H
      intro _ H
      go_wp2_with (go_skip)
      go_ret
      exact ⟨rfl, H.low⟩
end Go.Proofs.Ytgobnamhdkbbeaa
