/- RoundsFair: its walk, its argument. -/
import Derived.Test.YtbmmdfjabkpoeaaFw8
import Derived.Test.YtbmmdfjabkpoeaaFair8b
import Derived.Test.YtbmmdfjabkpoeaaRndHPart9
namespace Go.Proofs.Ytbmmdfjabkpoeaa
open Go.RowKit
set_option linter.unusedSimpArgs false
set_option linter.unusedVariables false
set_option maxRecDepth 100000
theorem MayD.many {F : List Flw} (h : MayD F) : ∀ x ∈ F, x.f ≤ 16 ∧ x.t ≤ 16 ∧ 0 ≤ x.n ∧ x.n ≤ 1099511627776 := fun x hx => by
  obtain ⟨i, hi, rfl⟩ := List.mem_iff_getElem.1 hx
  have := h.okX (List.getElem?_eq_getElem hi)
  exact ⟨by omega, by omega, by omega, by omega⟩
/-- What RoundsFair stands on. -/
theorem fair_facts {F : List Flw} (h : MayD F) (hl : F.length ≤ 240) {j : Nat} {N : List Int} (t : RdTr F j N) (hr : roundOf (edD F N) = []) :
    LeastOut 13 (leftL F N) 0 (leftL F N) 0 0 ∧ LeastOut 13 F (sumF F) (leftL F N) (j : Int) 0 ∧ (j : Int) ≤ sumF F - sumF (leftL F N) ∧ sumF F ≤ 263882790666240 ∧ 0 ≤ sumF F ∧ 0 ≤ sumF (leftL F N) := by
  obtain ⟨I, hi⟩ := t.inv h
  have hL := leftL_may h I
  have h1 := sumF_bnd F fun x hx => ⟨(h.many x hx).2.2.1, (h.many x hx).2.2.2⟩
  have h2 : sumF (leftL F N) = N.sum := leftL_sum I
  have h3 := I.sum0
  have h4 : (F.map Flw.n).sum = sumF F := rfl
  refine ⟨.inr ⟨hL, Int.le_refl _, 0, _, .nil, Int.le_refl _, .inl ⟨left_done h I hl hr, (leftL_all hL.pos).symm, rfl, rfl⟩⟩, .inr ⟨h, h1.1, j, N, t, by omega, .inl ⟨hr, rfl, rfl, rfl⟩⟩, by omega, by omega, h1.1, by omega⟩
section
variable {W w : World} {l : List Thing}
set_option maxHeartbeats 8000000
theorem rfair_H (a : Option Addr) (n c : Nat) (F : List Flw) (hl : F.length = n) (h63 : n ≤ 9223372036854775807) (hF : ∀ x ∈ F, FlwOk x) (R : ∀ l' w', Heap W l' w' → Rd w' a (flwL F)) (H : Heap W l w) :
    Calls Try.prog 4 #[.slice a n c] w fun e w' => e = .returned (.bool true) ∧ Heap W [] w' := by
  have G := great8_H (W := W) (l := l) a n c F hl h63 (fun l' w' _ H => R l' w' H)
  have LV := fun l' w' (H : Heap W l' w') => lives08_H H
  go_enter Try.func4, Try.ntmps4
  by_cases hg : great8 F = true
  · rw [hg] at G
    clear hg
    go_wp2_with (first | go_skip | ((with_reducible refine AnsH.call (by assumption) H ?_); clear H; intro _ H) | (refine (LV _ _ H).mono ?_; clear H; rintro _ _ ⟨rfl, H⟩))
    go_ret
    exact ⟨rfl, H.nothing⟩
  · have hg2 : great8 F = false := by simpa using hg
    have h240 := great8_few hg2
    rw [hl] at h240
    rw [hg2] at G
    clear hg hg2
    have LS := fun l' q w' (hq : q ≤ 9223372036854775807) (H : Heap W l' w') => least8_S a n c F q hl (by omega) hF hq (fun l'' w'' _ H => R l'' w'' H) H
    have HL := Lib.hid hl
    have HR := Lib.hid R
    clear hl R hF
    go_wp2_with (first | go_skip | ((with_reducible refine AnsH.call (by assumption) H ?_); clear H; intro _ H))
    refine (LS _ 1152921504606846976 _ (by omega) H).mono ?_
    clear H
    rintro _ _ ⟨b1, m1, d1, L, k, er, rfl, rfl, hd1, hx1, ho, H⟩
    rcases ho with ⟨_, rfl, rfl, rfl⟩ | ⟨hM, _, j, N, ht, hj, ⟨hr, rfl, rfl, rfl⟩ | ⟨_, hj2, rfl, rfl, rfl⟩⟩
    · go_wp2_with (first | go_skip | (refine (LV _ _ H).mono ?_; clear H; rintro _ _ ⟨rfl, H⟩))
      go_ret
      exact ⟨rfl, H.nothing⟩
    · obtain ⟨f1, f2, f3, f4, f5, f6⟩ := fair_facts hM (by rw [HL.out]; omega) ht hr
      have hI := (ht.inv hM).1
      have hlL := leftL_len F N
      rw [HL.out] at hlL
      have hMF := hM.many
      have hML := (leftL_may hM hI).many
      have hofm := fun y (hy : y ∈ leftL F N) => ofF_was hM hI hy
      have hst := fun p => ht.stand hM p
      have hpot := pot_of hM (by rw [HL.out]; omega) hr
      have HX := Lib.hid (And.intro f1 f2)
      have SD := fun l' => sum8_H (W := W) (l := l') a n c F HL.out (by omega) (fun x hx => ⟨(hMF x hx).2.2.1, (hMF x hx).2.2.2⟩) (fun w' H => HR.out _ w' H)
      have SL := fun l' (m : OwnT 39 3 (.slice b1 (leftL F N).length d1) (leftL F N).length (flwL (leftL F N)) ∈ l') => sum8_H (W := W) (l := l') b1 (leftL F N).length d1 (leftL F N) rfl (by omega) (fun x hx => ⟨(hML x hx).2.2.1, (hML x hx).2.2.2⟩) (fun w' H => H.ownRd m)
      have FL := fun l' (m : OwnT 39 3 (.slice b1 (leftL F N).length d1) (leftL F N).length (flwL (leftL F N)) ∈ l') => fair8_H (W := W) (l := l') b1 a (leftL F N).length n d1 c (leftL F N) F rfl HL.out (by omega) (by omega) (fun y hy => ⟨(hofm y hy).1, (hofm y hy).2.1, (hofm y hy).2.2.1, (hML y hy).2.2.2, (hofm y hy).2.2.2⟩) hMF hst (fun l'' w' hh H => H.ownRd (hh _ m)) (fun l'' w' _ H => HR.out l'' w' H)
      have WL := fun l' (m : OwnT 39 3 (.slice b1 (leftL F N).length d1) (leftL F N).length (flwL (leftL F N)) ∈ l') => fw8_H (W := W) (l := l') b1 a (leftL F N).length n d1 c F N hM hI rfl HL.out (by omega) hpot (fun l'' w' hh H => H.ownRd (hh _ m)) (fun l'' w' _ H => HR.out l'' w' H)
      have OKL : ∀ x ∈ leftL F N, FlwOk x := fun x hx => by have := hML x hx; exact ⟨by omega, by omega, by omega, by omega⟩
      have LA := fun l' w' (m : OwnT 39 3 (.slice b1 (leftL F N).length d1) (leftL F N).length (flwL (leftL F N)) ∈ l') (H : Heap W l' w') => least8_S (W := W) (l := l') b1 (leftL F N).length d1 (leftL F N) 0 rfl (by omega) OKL (by omega) (fun l'' w'' hh H => H.ownRd (hh _ m)) H
      have hj0 : decide ((j : Int) < 0) = false := decide_eq_false (by omega)
      clear hML hMF hofm hst hpot OKL ht hr hI hM
      generalize leftL F N = L at *
      generalize sumF F = sF at *
      generalize sumF L = sL at *
      have SD0 := SD (OwnT 39 3 (.slice b1 L.length d1) L.length (flwL L) :: l)
      have S0 : decide ((j : Int) > sF - sL) = false := decide_eq_false (by omega)
      go_wp2_with (first | go_skip | ((with_reducible refine AnsH.call (by assumption) H ?_); clear H; intro _ H))
      refine (LA _ _ List.mem_cons_self H).mono ?_
      clear H
      rintro _ _ ⟨b2, m2, d2, L2, k2, er2, rfl, rfl, hd2, hx2, ho, H⟩
      obtain ⟨rfl, rfl, rfl⟩ := HX.out.1.det ho
      clear ho
      go_wp2_with (go_skip)
      refine (LS _ sF _ (by omega) H).mono ?_
      clear H
      rintro _ _ ⟨b3, m3, d3, L3, k3, er3, rfl, rfl, hd3, hx3, ho, H⟩
      obtain ⟨rfl, rfl, rfl⟩ := HX.out.2.det ho
      clear ho SD0 LA SD LS
      have S1 := SL (OwnT 39 3 (.slice b3 L.length d3) L.length (flwL L) :: OwnT 39 3 (.slice b2 L.length d2) L.length (flwL L) :: OwnT 39 3 (.slice b1 L.length d1) L.length (flwL L) :: l) (List.mem_cons_of_mem _ (List.mem_cons_of_mem _ List.mem_cons_self))
      have S2 := FL (OwnT 39 3 (.slice b3 L.length d3) L.length (flwL L) :: OwnT 39 3 (.slice b2 L.length d2) L.length (flwL L) :: OwnT 39 3 (.slice b1 L.length d1) L.length (flwL L) :: l) (List.mem_cons_of_mem _ (List.mem_cons_of_mem _ List.mem_cons_self))
      have S3 := WL (OwnT 39 3 (.slice b3 L.length d3) L.length (flwL L) :: OwnT 39 3 (.slice b2 L.length d2) L.length (flwL L) :: OwnT 39 3 (.slice b1 L.length d1) L.length (flwL L) :: l) (List.mem_cons_of_mem _ (List.mem_cons_of_mem _ List.mem_cons_self))
      have S4 := sameFlows_P (W := W) (l := OwnT 39 3 (.slice b3 L.length d3) L.length (flwL L) :: OwnT 39 3 (.slice b2 L.length d2) L.length (flwL L) :: OwnT 39 3 (.slice b1 L.length d1) L.length (flwL L) :: l) (A := L) (B := L) b2 b1 L.length L.length d2 d1 rfl rfl (by omega) (by omega) (fun w' h => h.ownRd (List.mem_cons_of_mem _ List.mem_cons_self)) (fun w' h => h.ownRd (List.mem_cons_of_mem _ (List.mem_cons_of_mem _ List.mem_cons_self)))
      have S5 := sameFlows_P (W := W) (l := OwnT 39 3 (.slice b3 L.length d3) L.length (flwL L) :: OwnT 39 3 (.slice b2 L.length d2) L.length (flwL L) :: OwnT 39 3 (.slice b1 L.length d1) L.length (flwL L) :: l) (A := L) (B := L) b3 b1 L.length L.length d3 d1 rfl rfl (by omega) (by omega) (fun w' h => h.ownRd List.mem_cons_self) (fun w' h => h.ownRd (List.mem_cons_of_mem _ (List.mem_cons_of_mem _ List.mem_cons_self)))
      rw [decide_eq_true rfl] at S4 S5
      have mj : ((j : Int) == (j : Int)) = true := by simp
      clear SL FL WL
      go_wp2_with (first | go_skip | ((with_reducible refine AnsH.call (by assumption) H ?_); clear H; intro _ H) | (refine (LV _ _ H).mono ?_; clear H; rintro _ _ ⟨rfl, H⟩))
      go_ret
      exact ⟨rfl, H.nothing⟩
    · exfalso
      have := (ht.inv hM).2
      have := (ht.inv hM).1.sum0
      have h1 := sumF_bnd F fun x hx => ⟨(hM.many x hx).2.2.1, (hM.many x hx).2.2.2⟩
      rw [HL.out] at h1
      have h4 : (F.map Flw.n).sum = sumF F := rfl
      omega
end
theorem roundsFair_law (v : Value) (W : World) (o : FlowsV W v) :
    Calls Try.prog 4 #[v] W fun e w' => e = .returned (.bool true) ∧ Below W.heap.size W w' := by
  obtain ⟨a, n, c, F, rfl, hF⟩ := o
  have hn := hF.cap
  have hm := hF.max
  unfold maxLen at hm
  exact (rfair_H a n c F hF.len (by omega) hF.ok (fun _ w' H => H.rd hF.rd) (Heap.start W)).mono fun e w' ⟨he, hh⟩ => ⟨he, hh.low⟩
end Go.Proofs.Ytbmmdfjabkpoeaa
