/- LedgersOf: its walk. -/
import Derived.Test.YtacglcpjbepfnaaRefLed
import Derived.Test.YtacglcpjbepfnaaSame3
import Derived.Test.YtacglcpjbepfnaaTwins03
import Derived.Test.YtacglcpjbepfnaaLives03
import Derived.Test.YtacglcpjbepfnaaOpen3L
namespace Go.Proofs.Ytacglcpjbepfnaa
open Go.RowKit
set_option linter.unusedSimpArgs false
set_option linter.unusedVariables false
structure OfZero (W : World) (l : List Thing) (T : TypeId) (size : Nat) (a : Option Addr) (N c n : Nat) (i : Value) (wr : World) : Prop where
  out : ∃ (k : Nat) (xs : List Value), i = .int .i64 (k : Int) ∧ k ≤ n ∧ Heap W (OwnT T size (.slice a N c) N xs :: l) wr
set_option maxRecDepth 100000
set_option maxHeartbeats 8000000
theorem ledgersOf_great (w : World) (pa xa : Option Addr) (pn pc xn xc : Nat) (hg : 30 < pn ∨ 100 < xn) (hp : pn ≤ maxLen) (hx : xn ≤ maxLen) :
    Calls Try.prog 5 #[.slice pa pn pc, .slice xa xn xc] w fun e w' => e = .returned (.bool true) ∧ Below w.heap.size w w' := by
  have H := Heap.start w
  unfold maxLen at hp hx
  by_cases h1 : 30 < pn
  · have hcnt : 30 < (pn : Int) := by omega
    clear hg
    go_enter Try.func5, Try.ntmps5
    go_wp2_with (first | go_skip)
    refine (lives03_H H).mono ?_
    clear H
    rintro e w7 ⟨rfl, H⟩
    go_wp2_with (go_skip)
    go_ret
    exact ⟨rfl, H.low⟩
  · have hcnt : ¬ (30 < (pn : Int)) := by omega
    have hcnt2 : 100 < (xn : Int) := by omega
    clear hg
    go_enter Try.func5, Try.ntmps5
    go_wp2_with (first | go_skip)
    refine (lives03_H H).mono ?_
    clear H
    rintro e w7 ⟨rfl, H⟩
    go_wp2_with (go_skip)
    go_ret
    exact ⟨rfl, H.low⟩
theorem ledgersOf_main (w : World) (pa xa : Option Addr) (pn pc xn xc : Nat) (P : List Int) (X : List Lin) (hp : P.length = pn) (hx : X.length = xn) (hpm : pn ≤ 30) (hxm : xn ≤ 100) (hP : ∀ x ∈ P, 0 ≤ x ∧ x ≤ 255) (hX : ∀ x ∈ X, LinArg x) (RP0 : Rd w pa (pI P)) (RX0 : Rd w xa (linL X)) :
    Calls Try.prog 5 #[.slice pa pn pc, .slice xa xn xc] w fun e w' => e = .returned (.bool true) ∧ Below w.heap.size w w' := by
  have H := Heap.start w
  have hcnt : ¬ (30 < (pn : Int)) := by omega
  have hcnt2 : ¬ (100 < (xn : Int)) := by omega
  have RP := Lib.hid (show ∀ (l' : List Thing) w', Heap w l' w' → Rd w' pa (pI P) from fun l' w' H' => RP0.below H'.low)
  have RX := Lib.hid (show ∀ (l' : List Thing) w', Heap w l' w' → Rd w' xa (linL X) from fun l' w' H' => RX0.below H'.low)
  have HP := Lib.hid (And.intro hp hP)
  have HX := Lib.hid (And.intro hx hX)
  clear hp hx hP hX RP0 RX0
  go_enter Try.func5, Try.ntmps5
  go_wp2_with (first | go_skip)
  refine (twinParties_H pa pn pc P HP.out.1 (by omega) (fun l' w' _ h => RP.out l' w' h) H).mono ?_
  clear H
  rintro e w1 ⟨a1, c1, rfl, hc1, hm1, H⟩
  go_wp2_with (go_skip)
  refine (twinLines_H xa xn xc X HX.out.1 (by omega) (fun l' w' _ h => RX.out l' w' h) H).mono ?_
  clear H
  rintro e w2 ⟨a2, c2, rfl, hc2, hm2, H⟩
  have RP1 := Lib.hid (show ∀ (l' : List Thing) w', TwQ a1 c1 pn P ∈ l' → Heap w l' w' → Rd w' a1 (pI P) from fun l' w' m h => by
    have := rd_takeL (h.rowRd m) (pI P).length
    rwa [List.take_left] at this)
  have RX1 := Lib.hid (show ∀ (l' : List Thing) w', TwL a2 c2 xn X ∈ l' → Heap w l' w' → Rd w' a2 (linL X) from fun l' w' m h => by
    have := rd_takeL (h.rowRd m) (linL X).length
    rwa [List.take_left] at this)
  have LP := Lib.hid (fun (l' : List Thing) (m : TwQ a1 c1 pn P ∈ l') => leftParties_H (W := w) (l := l') a1 pa pn c1 pc P HP.out.1 (by omega) hc1 hm1 m (fun l2 w' _ h => RP.out l2 w' h))
  have LX := Lib.hid (fun (l' : List Thing) (m : TwL a2 c2 xn X ∈ l') => leftLines_H (W := w) (l := l') a2 xa xn c2 xc X HX.out.1 (by omega) hc2 hm2 m (fun l2 w' _ h => RX.out l2 w' h))
  go_wp2_with (go_skip)
  refine (lof_H a1 a2 pn c1 xn c2 P X HP.out.1 HX.out.1 (by omega) (by omega) HP.out.2 HX.out.2 (fun l' w' hs h => RP1.out l' w' (hs _ (by (repeat (first | (with_reducible exact List.mem_cons_self) | with_reducible apply List.mem_cons_of_mem)))) h) (fun l' w' hs h => RX1.out l' w' (hs _ (by (repeat (first | (with_reducible exact List.mem_cons_self) | with_reducible apply List.mem_cons_of_mem)))) h) H).mono ?_
  clear H
  rintro e w3 (⟨rfl, hno, H⟩ | ⟨rfl, hgp, hbig, H⟩ | ⟨p, q, rfl, hG, H⟩)
  · have HNO := Lib.hid hno
    clear hno
    go_wp2_with (go_skip)
    refine (rof_H pa xa pn pc xn xc P X HP.out.1 HX.out.1 (by omega) (by omega) HP.out.2 HX.out.2 (fun l' w' _ h => RP.out l' w' h) (fun l' w' _ h => RX.out l' w' h) H).mono ?_
    clear H
    rintro e w4 (⟨rfl, _, H⟩ | ⟨_, h1, h2, _⟩ | ⟨rp, _, g, _⟩)
    · have A1 := LP.out _ (by (repeat (first | (with_reducible exact List.mem_cons_self) | with_reducible apply List.mem_cons_of_mem)) : TwQ a1 c1 pn P ∈ [TwL a2 c2 xn X, TwQ a1 c1 pn P])
      have A2 := LX.out _ (by (repeat (first | (with_reducible exact List.mem_cons_self) | with_reducible apply List.mem_cons_of_mem)) : TwL a2 c2 xn X ∈ [TwL a2 c2 xn X, TwQ a1 c1 pn P])
      go_wp2_with (first | go_skip | ((with_reducible refine AnsH.call (by assumption) H ?_); clear H; intro _ H) | ((refine (lives03_H H).mono ?_); clear H; rintro _ _ ⟨rfl, H⟩))
      go_ret
      exact ⟨rfl, H.low⟩
    · rcases HNO.out with h | ⟨h, _⟩
      · exact absurd h1 h
      · omega
    · rcases HNO.out with h | ⟨_, h⟩
      · exact absurd ⟨g.par, g.par1⟩ h
      · exact absurd g h
  · have HNO := Lib.hid (And.intro hgp hbig)
    clear hgp hbig
    go_wp2_with (go_skip)
    refine (rof_H pa xa pn pc xn xc P X HP.out.1 HX.out.1 (by omega) (by omega) HP.out.2 HX.out.2 (fun l' w' _ h => RP.out l' w' h) (fun l' w' _ h => RX.out l' w' h) H).mono ?_
    clear H
    rintro e w4 (⟨_, h, _⟩ | ⟨rfl, _, _, H⟩ | ⟨rp, _, g, _⟩)
    · rcases h with h | ⟨h, _⟩
      · exact absurd HNO.out.1 h
      · have := HNO.out.2; omega
    · have A1 := LP.out _ (by (repeat (first | (with_reducible exact List.mem_cons_self) | with_reducible apply List.mem_cons_of_mem)) : TwQ a1 c1 pn P ∈ [TwL a2 c2 xn X, TwQ a1 c1 pn P])
      have A2 := LX.out _ (by (repeat (first | (with_reducible exact List.mem_cons_self) | with_reducible apply List.mem_cons_of_mem)) : TwL a2 c2 xn X ∈ [TwL a2 c2 xn X, TwQ a1 c1 pn P])
      go_wp2_with (first | go_skip | ((with_reducible refine AnsH.call (by assumption) H ?_); clear H; intro _ H) | ((refine (lives03_H H).mono ?_); clear H; rintro _ _ ⟨rfl, H⟩))
      go_ret
      exact ⟨rfl, H.low⟩
    · have := g.few; have := HNO.out.2; simp only at *; omega
  · have HG := Lib.hid hG
    clear hG
    go_wp2_with (go_skip)
    refine (rof_H pa xa pn pc xn xc P X HP.out.1 HX.out.1 (by omega) (by omega) HP.out.2 HX.out.2 (fun l' w' _ h => RP.out l' w' h) (fun l' w' _ h => RX.out l' w' h) H).mono ?_
    clear H
    rintro e w4 (⟨_, h, _⟩ | ⟨_, _, h, _⟩ | ⟨rp, rfl, _, HH⟩)
    · rcases h with h | ⟨_, h⟩
      · exact absurd ⟨HG.out.par, HG.out.par1⟩ h
      · exact absurd HG.out h
    · have := HG.out.few; simp only at this; omega
    obtain ⟨ra, rn, rc, rb, rm, rd, hl1, hl2, M, H⟩ := HH.open3
    have HM := Lib.hid (And.intro hl1 hl2)
    clear HH M hl1 hl2
    have A1 := LP.out _ (by (repeat (first | (with_reducible exact List.mem_cons_self) | with_reducible apply List.mem_cons_of_mem)) : TwQ a1 c1 pn P ∈ RefC rp (.slice ra rn rc) (.slice rb rm rd) :: RowT 23 1 (.slice ra rn rc) rn (pI P) :: RowT 39 5 (.slice rb rm rd) rm (linL X) :: LdC p P (some q) :: LdM q X :: [TwL a2 c2 xn X, TwQ a1 c1 pn P])
    have A2 := LX.out _ (by (repeat (first | (with_reducible exact List.mem_cons_self) | with_reducible apply List.mem_cons_of_mem)) : TwL a2 c2 xn X ∈ RefC rp (.slice ra rn rc) (.slice rb rm rd) :: RowT 23 1 (.slice ra rn rc) rn (pI P) :: RowT 39 5 (.slice rb rm rd) rm (linL X) :: LdC p P (some q) :: LdM q X :: [TwL a2 c2 xn X, TwQ a1 c1 pn P])
    go_wp2_with (first | go_skip | ((with_reducible refine AnsH.call (by assumption) H ?_); clear H; intro _ H))
    clear A1 A2
    replace H := (H.pull (.there (.there (.there (.there (.there .here)))))).slide
    obtain ⟨g2, o2, cc2, e2, _, _⟩ := OwnT.form (H.ok _ List.mem_cons_self) (by omega)
    simp only [Value.slice.injEq, true_and] at e2
    obtain ⟨rfl, rfl⟩ := e2
    have H0 := H
    clear H
    go_loopw [11] (fun i wr => OfZero w (RefC rp (.slice ra rn rc) (.slice rb rm rd) :: RowT 23 1 (.slice ra rn rc) rn (pI P) :: RowT 39 5 (.slice rb rm rd) rm (linL X) :: LdC p P (some q) :: LdM q X :: [TwQ a1 c1 pn P]) 39 5 (some ⟨g2, o2, none⟩) (xn + 2) c2 xn i wr) (fun i _ => xn - (intOf i).toNat)
    case atStart => exact ⟨0, _, rfl, by omega, H0⟩
    case round =>
      obtain ⟨k, xs, rfl, hk, H⟩ := hrel.out
      clear H0 hrel
      have hxl := OwnT.len (H.ok _ List.mem_cons_self)
      by_cases hlt : k < xn
      · have hkl : k * 5 + 4 < xs.length := by omega
        go_wp2_with (first
          | go_skip
          | ((with_reducible show wpList _ _ _ (_ :: _) _ _); (with_reducible apply wpl_storeOwnC); (· exact cell_i64); (· rfl); (· rfl); (· exact (rfl : _ = Value.int .i64 0)); (· exact ⟨rfl, rfl⟩); (· exact H); (· (repeat (first | (with_reducible exact List.mem_cons_self) | with_reducible apply List.mem_cons_of_mem))); (· exact Nat.add_assoc _ _ _); (· exact hkl); (· (repeat (first | (with_reducible exact Repl.here) | with_reducible apply Repl.there))); (clear H; intro _ H); (simp only [Act.put, List.setIfInBounds_toArray, List.set_cons_zero, List.set_cons_succ])))
        refine ⟨⟨k + 1, _, by go_num, by omega, H⟩, ?measure⟩
        case measure => simp [intOf]; omega
      · obtain rfl : xn = k := by omega
        go_wp2_with (go_skip)
        replace H := (H.tail.pull (.there (.there (.there (.there (.there .here)))))).slide
        obtain ⟨g1, o1, cc1, e1, _, _⟩ := OwnT.form (H.ok _ List.mem_cons_self) (by omega)
        simp only [Value.slice.injEq, true_and] at e1
        obtain ⟨rfl, rfl⟩ := e1
        have H0 := H
        clear H
        go_loopw [12] (fun i wr => OfZero w (RefC rp (.slice ra rn rc) (.slice rb rm rd) :: RowT 23 1 (.slice ra rn rc) rn (pI P) :: RowT 39 5 (.slice rb rm rd) rm (linL X) :: LdC p P (some q) :: LdM q X :: []) 23 1 (some ⟨g1, o1, none⟩) (pn + 2) c1 pn i wr) (fun i _ => pn - (intOf i).toNat)
        case atStart => exact ⟨0, _, rfl, by omega, H0⟩
        case round =>
          obtain ⟨j, ys, rfl, hj, H⟩ := hrel.out
          clear H0 hrel
          have hyl := OwnT.len (H.ok _ List.mem_cons_self)
          by_cases hlt2 : j < pn
          · have hjl : j < ys.length := by omega
            go_wp2_with (first
              | go_skip
              | ((with_reducible show wpList _ _ _ (_ :: _) _ _); (with_reducible apply wpl_storeOwnC); (· exact cell_party); (· rfl); (· rfl); (· exact (rfl : _ = Value.int .u8 9)); (· exact ⟨rfl, rfl⟩); (· exact H); (· (repeat (first | (with_reducible exact List.mem_cons_self) | with_reducible apply List.mem_cons_of_mem))); (· rfl); (· exact hjl); (· (repeat (first | (with_reducible exact Repl.here) | with_reducible apply Repl.there))); (clear H; intro _ H); (simp only [Act.put, List.setIfInBounds_toArray, List.set_cons_zero, List.set_cons_succ])))
            refine ⟨⟨j + 1, _, by go_num, by omega, H⟩, ?measure2⟩
            case measure2 => simp [intOf]; omega
          · obtain rfl : pn = j := by omega
            replace H := H.tail
            have SM := sameLed_A (W := w) (p := p) (q := q) (rp := rp) (S := ⟨P, X⟩) (l := RefC rp (.slice ra rn rc) (.slice rb rm rd) :: RowT 23 1 (.slice ra rn rc) rn (pI P) :: RowT 39 5 (.slice rb rm rd) rm (linL X) :: LdC p P (some q) :: LdM q X :: []) HG.out (.there (.there (.there .here))) (.there (.there (.there .here))) ⟨ra, rn, rc, rb, rm, rd, HM.out.1, HM.out.2, by (repeat (first | (with_reducible exact List.mem_cons_self) | with_reducible apply List.mem_cons_of_mem)), by (repeat (first | (with_reducible exact List.mem_cons_self) | with_reducible apply List.mem_cons_of_mem)), by (repeat (first | (with_reducible exact List.mem_cons_self) | with_reducible apply List.mem_cons_of_mem))⟩
            go_wp2_with (first | go_skip | ((with_reducible refine AnsH.call (by assumption) H ?_); clear H; intro _ H) | ((refine (lives03_H H).mono ?_); clear H; rintro _ _ ⟨rfl, H⟩))
            go_ret
            exact ⟨rfl, H.low⟩
theorem ledgersOf_law (v0 v1 : Value) (w : World) (o0 : ParsV w v0) (o1 : LinsV w v1) : Calls Try.prog 5 #[v0, v1] w fun e w' => e = .returned (.bool true) ∧ Below w.heap.size w w' := by
  obtain ⟨a, n, c, P, rfl, o0⟩ := o0
  obtain ⟨b, m, d, X, rfl, o1⟩ := o1
  by_cases h : 30 < n ∨ 100 < m
  · exact ledgersOf_great w a b n c m d h (Nat.le_trans o0.cap o0.max) (Nat.le_trans o1.cap o1.max)
  · exact ledgersOf_main w a b n c m d P X o0.len o1.len (by omega) (by omega) o0.ok o1.ok o0.rd o1.rd
end Go.Proofs.Ytacglcpjbepfnaa
