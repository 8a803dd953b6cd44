/- RoundsLeast: its walk, its arguments. -/
import Derived.Test.YtbmmdfjabkpoeaaRef08
import Derived.Test.YtbmmdfjabkpoeaaRndHPart9
namespace Go.Proofs.Ytbmmdfjabkpoeaa
open Go.RowKit
set_option linter.unusedSimpArgs false
set_option linter.unusedVariables false
set_option maxRecDepth 100000
theorem Own.less {w : World} {e size N n c : Nat} {a : Option Addr} {xs : List Value} (h : Own w 0 e size (.slice a N c) N xs) (hn : n ≤ N) : Own w 0 e size (.slice a n c) n (xs.take (n * size)) := by
  have hm : n * size ≤ N * size := Nat.mul_le_mul_right _ hn
  obtain ⟨hl, ⟨hv, h0⟩ | ⟨g, off, cap, cur, hv, hb, hg, hnc, hcm, hs, ht⟩⟩ := h
  · subst h0
    obtain rfl : n = 0 := by omega
    exact ⟨by simp, .inl ⟨hv, rfl⟩⟩
  · simp only [Value.slice.injEq, true_and] at hv
    obtain ⟨rfl, rfl⟩ := hv
    refine ⟨by rw [List.length_take]; omega, .inr ⟨g, off, c, cur, rfl, hb, hg, by omega, hcm, hs, ?_⟩⟩
    rw [← ht, List.take_take, Nat.min_eq_left hm]
theorem LeastOut.len {q0 : Int} {F : List Flw} {q : Int} {L : List Flw} {k e : Int} (h : LeastOut q0 F q L k e) : L.length ≤ F.length := by
  rcases h with ⟨_, rfl, _⟩ | ⟨_, _, j, N, _, _, ⟨_, rfl, _⟩ | ⟨_, _, rfl, _⟩⟩
  · simp
  · exact leftL_len F N
  · simp
section
variable {W w : World} {l : List Thing}
set_option maxHeartbeats 8000000
theorem Heap.twOwn {a : Option Addr} {c n : Nat} {F : List Flw} (H : Heap W (TwT a c n F :: l) w) (hl : F.length = n) : Heap W (OwnT 39 3 (.slice a n c) n (flwL F) :: l) w := by
  refine H.slide.head (World.grownBy.refl _ _) ?_ (.inl (by cases a <;> rfl))
  have h := Own.less (n := n) (H.slide.ok _ List.mem_cons_self) (by omega)
  rwa [List.take_append_of_le_length (by rw [flwL_len, hl]; exact Nat.le_refl _), List.take_of_length_le (by rw [flwL_len, hl]; exact Nat.le_refl _)] at h
theorem rleastLaw_H (a : Option Addr) (n c : Nat) (F : List Flw) (q : Int) (hq : q ≤ 9223372036854775807) (hl : F.length = n) (h63 : n ≤ 9223372036854775807) (hF : ∀ x ∈ F, FlwOk x) (R : ∀ l' w', Heap W l' w' → Rd w' a (flwL F)) (H : Heap W l w) :
    Calls Try.prog 3 #[.slice a n c, .int .i64 q] w fun e w' => e = .returned (.bool true) ∧ Heap W [] w' := by
  have G := great8_H (W := W) (l := l) a n c F hl h63 (fun l' w' _ H => R l' w' H)
  have LV := fun l' w' (H : Heap W l' w') => lives08_H H
  go_enter Try.func3, Try.ntmps3
  by_cases hg : great8 F = true
  · rw [hg] at G
    clear hg
    go_wp2_with (first | go_skip | ((with_reducible refine AnsH.call (by assumption) H ?_); clear H; intro _ H) | (refine (LV _ _ H).mono ?_; clear H; rintro _ _ ⟨rfl, H⟩))
    go_ret
    exact ⟨rfl, H.nothing⟩
  · have hg2 : great8 F = false := by simpa using hg
    have h240 := great8_few hg2
    rw [hl] at h240
    rw [hg2] at G
    clear hg hg2
    have TW := fun w' (H : Heap W l w') => twinFlows_H a n c F hl (by omega) (fun l'' w'' _ H => R l'' w'' H) H
    have RL := fun l' w' (H : Heap W l' w') => rleast8_H a n c F q hl (by omega) hF hq (fun l'' w'' _ H => R l'' w'' H) H
    have HL := Lib.hid hl
    have HF := Lib.hid hF
    have HR := Lib.hid R
    clear hl R hF
    go_wp2_with (first | go_skip | ((with_reducible refine AnsH.call (by assumption) H ?_); clear H; intro _ H))
    refine (TW _ H).mono ?_
    clear H TW
    rintro _ _ ⟨a1, c1, rfl, hc1, hm1, H⟩
    go_wp2_with (go_skip)
    refine (least8_S a1 n c1 F q HL.out (by omega) HF.out hq (fun l' w' hh H' => by
      have := (H'.rowRd (hh _ List.mem_cons_self)).takeN (flwL F).length
      rwa [List.take_left] at this) H).mono ?_
    clear H
    rintro _ _ ⟨b1, m1, d1, L, k, er, rfl, rfl, hd1, hx1, ho, H⟩
    have HO := Lib.hid ho
    clear ho
    go_wp2_with (go_skip)
    refine (RL _ _ H).mono ?_
    clear H RL
    rintro _ _ ⟨v2, L2, k2, er2, rfl, ho2, H⟩
    obtain ⟨rfl, rfl, rfl⟩ := HO.out.det ho2
    obtain ⟨b2, d2, rfl, hd2, hx2⟩ := OwnT.form0 (H.ok _ List.mem_cons_self)
    have hlL := ho2.len
    rw [HL.out] at hlL
    clear ho2 HO
    have S1 := sameFlows_P (W := W) (l := OwnT 39 3 (.slice b2 L.length d2) L.length (flwL L) :: OwnT 39 3 (.slice b1 L.length d1) L.length (flwL L) :: TwT a1 c1 n F :: l) b1 b2 L.length L.length d1 d2 rfl rfl (by omega) (by omega) (fun w' h => h.ownRd (List.mem_cons_of_mem _ List.mem_cons_self)) (fun w' h => h.ownRd List.mem_cons_self)
    rw [decide_eq_true rfl] at S1
    have LF := leftFlows_H (W := W) (l := OwnT 39 3 (.slice b2 L.length d2) L.length (flwL L) :: OwnT 39 3 (.slice b1 L.length d1) L.length (flwL L) :: TwT a1 c1 n F :: l) a1 a n c1 c F HL.out (by omega) hc1 hm1 (List.mem_cons_of_mem _ (List.mem_cons_of_mem _ List.mem_cons_self)) (fun l'' w'' _ H => HR.out l'' w'' H)
    have mk : (k != k) = false := by simp
    have me : (er != er) = false := by simp
    go_wp2_with (first
      | go_skip
      | ((with_reducible refine AnsH.call (by assumption) H ?_); clear H; intro _ H)
      | ((with_reducible show wpList _ _ _ (_ :: _) _ _); (with_reducible apply wpl_allocRH row_book); (· rfl); (· exact H); (clear H; intro kb _ H); (simp only [Act.put, List.setIfInBounds_toArray, List.set_cons_zero, List.set_cons_succ]))
      | ((with_reducible show wpList _ _ _ (_ :: _) _ _); (with_reducible apply wpl_storeRH row_book); (· rfl); (· rfl); (· rfl); (· with_reducible exact bookC_cells); (· exact H); (· (repeat (first | (with_reducible exact List.mem_cons_self) | with_reducible apply List.mem_cons_of_mem))); (· (simp only [bookC_sz, Nat.reduceAdd, Nat.reduceLeDiff, Nat.le_refl]; done)); (· with_reducible exact bookC_splice ..); (· (repeat (first | (with_reducible exact Repl.here) | with_reducible apply Repl.there))); (clear H; intro _ H); (simp only [Act.put, List.setIfInBounds_toArray, List.set_cons_zero, List.set_cons_succ])))
    replace H := H.pull (.there (.there (.there .here)))
    replace H := H.twOwn HL.out
    have B := Book.new ((H.perm (.swap _ _ _)).perm (.cons _ (.cons _ (.swap _ _ _))))
    clear H
    refine (lay_Fl kb [] a1 n c1 (by decide) B).mono ?_
    clear B
    rintro e w9 ⟨rfl, p1, B⟩
    go_wp2_with (go_skip)
    refine (lay_Fl kb _ b1 L.length d1 (by simp) B).mono ?_
    clear B
    rintro e w10 ⟨rfl, p2, B⟩
    go_wp2_with (go_skip)
    refine (B.apart (by simp)).mono ?_
    clear B
    rintro e w11 ⟨rfl, H⟩
    go_wp2_with (first | go_skip | (refine (LV _ _ H).mono ?_; clear H; rintro _ _ ⟨rfl, H⟩))
    go_ret
    exact ⟨rfl, H.nothing⟩
end
theorem roundsLeast_law (v : Value) (x : Int) (W : World) (o : FlowsV W v) (b1 : -9223372036854775808 ≤ x) (b2 : x ≤ 9223372036854775807) :
    Calls Try.prog 3 #[v, .int .i64 x] W fun e w' => e = .returned (.bool true) ∧ Below W.heap.size W w' := by
  obtain ⟨a, n, c, F, rfl, hF⟩ := o
  have hn := hF.cap
  have hm := hF.max
  unfold maxLen at hm
  exact (rleastLaw_H a n c F x b2 hF.len (by omega) hF.ok (fun _ w' H => H.rd hF.rd) (Heap.start W)).mono fun e w' ⟨he, hh⟩ => ⟨he, hh.low⟩
end Go.Proofs.Ytbmmdfjabkpoeaa
