/- graphs.Of: a ledger's rooms. -/
import Derived.Test.YtgobnamhdkbbeaaLives05b
import Derived.Test.YtgobnamhdkbbeaaLed11
import Derived.Test.YtgobnamhdkbbeaaMade
namespace Go.Proofs.Ytgobnamhdkbbeaa
open Go.RowKit
set_option linter.unusedSimpArgs false
set_option linter.unusedVariables false
/-- The rooms of a ledger, as capacities. -/
def capsS (S : Lgr) (c : Int) : Caps := fun a b => roomOf S a b c
theorem gr_congr {c d : Caps} {m : Bool} (h : ∀ a b, a < 17 → b < 17 → c a b = d a b) : gr c m = gr d m := by
  unfold gr
  apply tab_congr
  intro i hi
  split
  · rw [h _ _ (by omega) (by omega)]
  · rfl
/-- Half set: each is 0 or the room. -/
def HalfC (S : Lgr) (c : Int) (C : Caps) : Prop := ∀ a b : Nat, C a b = 0 ∨ C a b = roomOf S a b c
structure OfR (W : World) (l : List Thing) (S : Lgr) (c : Int) (p n : Nat) (i : Value) (wr : World) : Prop where
  out : ∃ (k : Nat) (C : Caps), k ≤ n ∧ i = .int .i64 (k : Int) ∧ HalfC S c C ∧ (∀ a b : Nat, (a : Int) ∈ S.P.take k → (b : Int) ∈ S.P → C a b = roomOf S a b c) ∧ Heap W (Gr p C :: l) wr
structure OfR2 (W : World) (l : List Thing) (S : Lgr) (c : Int) (p n k a0 : Nat) (i : Value) (wr : World) : Prop where
  out : ∃ (j : Nat) (C : Caps), j ≤ n ∧ i = .int .i64 (j : Int) ∧ HalfC S c C ∧ (∀ a b : Nat, (a : Int) ∈ S.P.take k → (b : Int) ∈ S.P → C a b = roomOf S a b c) ∧ (∀ b : Nat, (b : Int) ∈ S.P.take j → C a0 b = roomOf S a0 b c) ∧ Heap W (Gr p C :: l) wr
theorem half_done {S : Lgr} {c : Int} {C : Caps} (G : S.Good) (h : HalfC S c C) (h2 : ∀ a b : Nat, (a : Int) ∈ S.P → (b : Int) ∈ S.P → C a b = roomOf S a b c) (a b : Nat) : C a b = capsS S c a b := by
  unfold capsS
  by_cases ha : (a : Int) ∈ S.P
  · by_cases hb : (b : Int) ∈ S.P
    · exact h2 a b ha hb
    · have := G.room0 (f := a) (t := b) c (.inr (.inr hb))
      rcases h a b with h | h <;> omega
  · have := G.room0 (f := a) (t := b) c (.inr (.inl ha))
    rcases h a b with h | h <;> omega
theorem half_upd {S : Lgr} {c : Int} {C : Caps} (h : HalfC S c C) (a b : Nat) : HalfC S c (upd2 C a b (roomOf S a b c)) := fun x y => by
  unfold upd2
  split
  · rename_i e; obtain ⟨rfl, rfl⟩ := e; exact .inr rfl
  · exact h x y
theorem upd_room {S : Lgr} {c : Int} {C : Caps} {x y : Nat} (a b : Nat) (h : C x y = roomOf S x y c) : upd2 C a b (roomOf S a b c) x y = roomOf S x y c := by
  unfold upd2
  split
  · rename_i e; obtain ⟨rfl, rfl⟩ := e; rfl
  · exact h
section
variable {W w : World} {l : List Thing} {p q : Nat} {S : Lgr}
set_option maxRecDepth 100000
set_option maxHeartbeats 4000000
theorem of_H (c : Nat) (hc : c ≤ 255) (G : S.Good) (H : Heap W l w) (h1 : LdC p S.P (some q) ∈ l) (h2 : LdM q S.L ∈ l) :
    Calls Try.prog 14 #[.pointer (some ⟨p, 0, none⟩), .int .u8 (c : Int)] w fun e w' => ∃ g, e = .returned (.pointer (some ⟨g, 0, none⟩)) ∧ Heap W (Gr g (capsS S c) :: l) w' := by
  have HG := Lib.hid G
  have hfew := G.few16
  clear G
  go_enter Try.func14, Try.ntmps14
  go_wp2_with (first
    | go_skip
    | ((with_reducible show wpList _ _ _ (_ :: _) _ _); (with_reducible apply wpl_boxRH); (· rfl); (· rfl); (· exact H); (clear H; intro pg _ H); (simp only [Act.put, List.setIfInBounds_toArray, List.set_cons_zero, List.set_cons_succ])))
  rw [zero_gr] at H
  refine (lparties_H (p := p) (q := q) HG.out.par HG.out.par1 H (List.mem_cons_of_mem _ h1)).mono ?_
  clear H
  rintro e w1 (⟨h0, rfl, H⟩ | ⟨hpos, g, cc, rfl, hcc, H⟩)
  · go_wp2_with (go_skip)
    refine wp_loop_once ?_
    go_wp2_with (go_skip)
    go_ret
    refine ⟨pg, rfl, ?_⟩
    have hP : S.P = [] := List.eq_nil_of_length_eq_zero h0
    have e : gr zeroC true = gr (capsS S c) true := gr_congr fun a b _ _ => by
      have := HG.out.room0 (f := a) (t := b) c (.inr (.inl (by rw [hP]; exact List.not_mem_nil)))
      show 0 = roomOf S a b c
      omega
    unfold Gr at *
    rw [e] at H
    exact H
  · generalize hn : S.P.length = n at *
    have HN := Lib.hid hn
    clear hn
    replace H := H.perm (.swap _ _ _)
    have H0 := H
    clear H
    have HM1 := Lib.hid h1
    have HM2 := Lib.hid h2
    clear h1 h2 hpos hcc
    go_wp2_with (go_skip)
    go_loopw [17] (fun i wr => OfR W (Sl g 30 1 n cc (pI S.P) :: l) S c pg n i wr) (fun i _ => n - (intOf i).toNat)
    case atStart => exact ⟨0, zeroC, Nat.zero_le _, rfl, fun _ _ => .inl rfl, (fun a b h => by simp at h), H0⟩
    case round =>
      obtain ⟨k, C, hk, rfl, hC, hT, H⟩ := hrel.out
      clear H0 hrel
      have HC := Lib.hid (And.intro hC hT)
      clear hC hT
      by_cases hlt : k < n
      · have hkP : k < S.P.length := by rw [HN.out]; exact hlt
        have hb := HG.out.par1 _ (List.getElem_mem hkP)
        obtain ⟨a, ha⟩ : ∃ a : Nat, S.P[k] = (a : Int) := ⟨S.P[k].toNat, by rw [Int.toNat_of_nonneg (by omega)]⟩
        rw [ha] at hb
        have a17 : a < 17 := by omega
        have a255 : a ≤ 255 := by omega
        have HA := Lib.hid ha
        have HRD := Lib.hid (show ∀ (C : Caps) w', Heap W (Gr pg C :: Sl g 30 1 n cc (pI S.P) :: l) w' → Rd w' (some ⟨g, 0, none⟩) (pI S.P) from fun C w' H' => H'.slRd (List.mem_cons_of_mem _ List.mem_cons_self))
        have hcell : wr.cell? ⟨g, k, none⟩ = some (.int .u8 (a : Int)) := by
          have h3 := (HRD.out C wr H).get (i := k) (by rw [pI_len, HN.out]; exact hlt)
          rw [Nat.zero_add] at h3
          rw [h3]
          simp [pI, HA.out]
        have HKP := Lib.hid hkP
        clear ha hb
        go_wp2_with (first | go_skip | ((with_reducible show wpList _ _ _ (_ :: _) _ _); (with_reducible apply wpl_loadCell); (· exact cell_party); (· rfl); (· rfl); (· exact hcell); (simp only [Act.put, List.setIfInBounds_toArray, List.set_cons_zero, List.set_cons_succ])))
        clear hcell
        have H0 := H
        clear H
        go_loopw [23] (fun i wr => OfR2 W (Sl g 30 1 n cc (pI S.P) :: l) S c pg n k a i wr) (fun i _ => n - (intOf i).toNat)
        case atStart => exact ⟨0, C, Nat.zero_le _, rfl, HC.out.1, HC.out.2, (fun b h => by simp at h), H0⟩
        case round =>
          obtain ⟨j, D, hj, rfl, hD, hDT, hDJ, H⟩ := hrel.out
          clear H0 hrel
          have HD := Lib.hid (And.intro hD (And.intro hDT hDJ))
          clear hD hDT hDJ
          by_cases hjt : j < n
          · have hjP : j < S.P.length := by rw [HN.out]; exact hjt
            have hb := HG.out.par1 _ (List.getElem_mem hjP)
            obtain ⟨b, hbb⟩ : ∃ b : Nat, S.P[j] = (b : Int) := ⟨S.P[j].toNat, by rw [Int.toNat_of_nonneg (by omega)]⟩
            rw [hbb] at hb
            have b17 : b < 17 := by omega
            have b255 : b ≤ 255 := by omega
            have hcell : wr.cell? ⟨g, j, none⟩ = some (.int .u8 (b : Int)) := by
              have h3 := (HRD.out D wr H).get (i := j) (by rw [pI_len, HN.out]; exact hjt)
              rw [Nat.zero_add] at h3
              rw [h3]
              simp [pI, hbb]
            have R := lroom_H (W := W) (l := Gr pg D :: Sl g 30 1 n cc (pI S.P) :: l) (p := p) (q := q) a b c a255 b255 hc HG.out (List.mem_cons_of_mem _ (List.mem_cons_of_mem _ HM1.out)) (List.mem_cons_of_mem _ (List.mem_cons_of_mem _ HM2.out))
            have HB := Lib.hid (show S.P.take (j + 1) = S.P.take j ++ [(b : Int)] by rw [take_snoc _ _ hjP, hbb])
            generalize hro : roomOf S a b c = ro at *
            have HRO := Lib.hid hro
            clear hb hbb hjP hro
            go_wp2_with (first | go_skip | ((with_reducible show wpList _ _ _ (_ :: _) _ _); (with_reducible apply wpl_loadCell); (· exact cell_party); (· rfl); (· rfl); (· exact hcell); (simp only [Act.put, List.setIfInBounds_toArray, List.set_cons_zero, List.set_cons_succ])))
            refine wp_region_H_tail 12 H (by kernel_rfl) (by kernel_rfl) ?_
            simp only [List.take_succ_cons, List.take_zero, List.drop_succ_cons, List.drop_zero]
            repeat (first | go_big_quiet_skip | fail | go_big_quiet_step ((with_reducible first | exact AnsH.quiet (by assumption) | exact Ans.quietH (by assumption))))
            refine wpQuiet_nil ?_
            clear H
            intro _ H
            go_wp2_with ((with_reducible show wpList _ _ _ (_ :: _) _ _); (with_reducible apply wpl_storeIH); (· exact cell_i64); (· rfl); (· rfl); (· rfl); (· exact H); (· (repeat (first | (with_reducible exact List.mem_cons_self) | with_reducible apply List.mem_cons_of_mem))); (· (rw [gr_sz]; omega)); (· exact gr_set _ _ a17 b17 _); (· (repeat (first | (with_reducible exact Repl.here) | with_reducible apply Repl.there))); (clear H; intro _ H); (simp only [Act.put, List.setIfInBounds_toArray, List.set_cons_zero, List.set_cons_succ]))
            refine ⟨⟨j + 1, _, by omega, by go_num, ?_, ?_, ?_, H⟩, ?measure⟩
            case measure => simp [intOf]; omega
            · rw [← HRO.out]
              exact half_upd HD.out.1 a b
            · intro x y hx hy
              rw [← HRO.out]
              exact upd_room a b (HD.out.2.1 x y hx hy)
            · intro y hy
              rw [← HRO.out]
              rw [HB.out, List.mem_append] at hy
              rcases hy with hy | hy
              · exact upd_room a b (HD.out.2.2 y hy)
              · have : y = b := by simp at hy; omega
                subst this
                unfold upd2
                rw [if_pos ⟨rfl, rfl⟩]
          · obtain rfl : j = n := by omega
            go_wp2_with (go_skip)
            refine ⟨⟨k + 1, D, by omega, by go_num, HD.out.1, ?_, H⟩, ?measure2⟩
            case measure2 => simp [intOf]; omega
            intro x y hx hy
            rw [take_snoc _ _ HKP.out, HA.out, List.mem_append] at hx
            rcases hx with hx | hx
            · exact HD.out.2.1 x y hx hy
            · have : x = a := by simp at hx; omega
              subst this
              exact HD.out.2.2 y (by rw [List.take_of_length_le (by rw [HN.out]; exact Nat.le_refl _)]; exact hy)
      · obtain rfl : k = n := by omega
        go_wp2_with (go_skip)
        go_ret
        refine ⟨pg, rfl, ?_⟩
        have e : gr C true = gr (capsS S c) true := gr_congr fun a b _ _ => half_done HG.out HC.out.1 (fun a b ha hb => HC.out.2 a b (by rw [List.take_of_length_le (by rw [HN.out]; exact Nat.le_refl _)]; exact ha) hb) a b
        have H2 := H.drop (.there .here)
        unfold Gr at *
        rw [e] at H2
        exact H2
end
end Go.Proofs.Ytgobnamhdkbbeaa
