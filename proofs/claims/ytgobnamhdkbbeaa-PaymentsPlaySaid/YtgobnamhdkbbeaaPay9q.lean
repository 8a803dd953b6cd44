/- Payments there and back; where no more goes. (Plain.) -/
import Derived.Test.YtgobnamhdkbbeaaPayGPart15
namespace Go.Proofs.Ytgobnamhdkbbeaa
theorem Tr.cutAny {f t : Nat} {c0 : Caps} {n0 : Int} (h0 : PlayC c0) (S : Nat → Bool) {k : Nat} {c : Caps} {n : Int} {P : List Flw} (h : Tr f t c0 n0 k c n P) : cutS c S = cutS c0 S + (if S t then n0 - n else 0) - (if S f then n0 - n else 0) := by
  induction h with
  | nil => split <;> split <;> omega
  | @snoc k c n P L h h1 h2 h3 ih =>
    have hp := h.play h0
    obtain ⟨d, hw⟩ := h2.way hp.good h3
    have hpos := mnW_pos c L n h1 hw.cap
    obtain ⟨M, rfl⟩ := hw.head
    have hlast : (f :: M).getLast? = some t := by rw [List.getLast?_eq_getElem?]; exact hw.last
    rw [cutS_way (show 1 ≤ mnW c (f :: M) n by omega) M f t c hw.drop (fun x y hp => mnW_fit c _ n hp) (fun x hx => by have := hw.rng x hx; omega) hlast, ih]
    split <;> split <;> omega
theorem RouteOut.cutAny {f t : Nat} {c : Caps} {want got : Int} {P : List Flw} (h0 : PlayC c) (h : RouteOut f t c want P got) (S : Nat → Bool) : cutS (pushL c P) S = cutS c S + (if S t then got else 0) - (if S f then got else 0) := by
  obtain ⟨k, c1, r, h1, h2, rfl⟩ := h
  obtain ⟨d1, _, _⟩ := h1.done h0
  rw [d1]
  by_cases hw : want ≤ 0
  · cases h1 with
    | nil => split <;> split <;> omega
    | snoc q1 q2 _ _ => have := q1.top h0; omega
  · have hle := h1.le h0 (by omega)
    have := h1.cutAny h0 S
    rw [this]
    split <;> split <;> omega
/-- The least cut is as great as the most that goes. -/
theorem RouteOut.minCut {f t : Nat} {c : Caps} {most : Int} {Q : List Flw} (h0 : PlayC c) (hf : mayP f = true) (ht : mayP t = true) (hne : f ≠ t) (g : RouteOut f t c 9223372036854775807 Q most) : 0 ≤ most ∧ most < 4611686018427387904 ∧ ∃ T : Nat → Bool, T f = true ∧ T t = false ∧ cutS c T = most := by
  have h1 := g.done h0
  have h2 := g.left h0
  have hb := h0.cutB (fun p => decide (p = f))
  have h3 := h2.1 (fun p => decide (p = f)) (by simp) (by simp; exact fun e => hne e.symm)
  have h4 := (pushL_play Q h0).good.cut0 (fun p => decide (p = f))
  obtain ⟨T, t1, t2, t3⟩ := (h2.2.1 (by omega)).cut (pushL_play Q h0).good hf ht hne
  exact ⟨h1.2.1, by omega, T, t1, t2, by rw [h2.1 T t1 t2, t3]; omega⟩
theorem RouteOut.under {f t : Nat} {c : Caps} {most : Int} {Q : List Flw} (h0 : PlayC c) (g : RouteOut f t c 9223372036854775807 Q most) (T : Nat → Bool) (h1 : T f = true) (h2 : T t = false) : most ≤ cutS c T := by
  rw [(g.left h0).1 T h1 h2]
  have := (pushL_play Q h0).good.cut0 T
  omega
theorem most_same {f t : Nat} {c d : Caps} {m m' : Int} {P Q : List Flw} (h0 : PlayC c) (h1 : PlayC d) (hf : mayP f = true) (ht : mayP t = true) (hne : f ≠ t) (hc : ∀ T : Nat → Bool, cutS d T = cutS c T) (h : RouteOut f t c 9223372036854775807 P m) (g : RouteOut f t d 9223372036854775807 Q m') : m' = m := by
  obtain ⟨_, _, T, a1, a2, a3⟩ := h.minCut h0 hf ht hne
  obtain ⟨_, _, U, b1, b2, b3⟩ := g.minCut h1 hf ht hne
  have e1 := g.under h1 T a1 a2
  have e2 := h.under h0 U b1 b2
  rw [hc] at e1 b3
  omega
theorem pay_ends {f t c : Nat} {n : Int} (h : ¬ badPay f t c n) : mayP f = true ∧ mayP t = true ∧ f ≠ t ∧ 1 ≤ n ∧ 1 ≤ f ∧ f ≤ 16 ∧ 1 ≤ t ∧ t ≤ 16 ∧ 1 ≤ c ∧ c ≤ 8 ∧ n ≤ 1099511627776 := by
  unfold badPay at h
  exact ⟨(mayP_iff f).2 (by omega), (mayP_iff t).2 (by omega), by omega, by omega, by omega, by omega, by omega, by omega, by omega, by omega, by omega⟩
/-- What was paid may be paid back. -/
theorem pay_back {S S1 S2 : Lgr} {f t c : Nat} {n k k2 e2 : Int} (G : S.Good) (h : PayOut S f t c n k 0 S1) (g : PayOut S1 t f c n k2 e2 S2) :
    e2 = 0 ∧ S1.Good ∧ S2.Good ∧ noDeb S2.L = noDeb S.L ∧ (∀ d p : Nat, posL S2.L p d = posL S.L p d) ∧ (∀ T : Nat → Bool, cutS (capsS S2 c) T = cutS (capsS S c) T) ∧ ¬ badPay f t c n := by
  rcases h with ⟨_, h, _⟩ | ⟨_, _, h, _⟩ | ⟨hb, hf, ht, Q, got, hr, ⟨_, h, _⟩ | ⟨rfl, _, _, rfl⟩⟩
  · omega
  · omega
  · omega
  obtain ⟨mf, mt, hne, _⟩ := pay_ends hb
  obtain ⟨P1, F1, g0, np, _⟩ := Pushed.end G hr
  have C1 := hr.cutAny (capsS_play G c)
  generalize pushLs S c Q = S1 at *
  have hb2 : ¬ badPay t f c got := by unfold badPay at *; omega
  rcases g with ⟨h, _⟩ | ⟨_, h, _⟩ | ⟨_, _, _, Q2, got2, hr2, h⟩
  · exact absurd h hb2
  · rw [P1.par] at h
    rcases h with h | h <;> contradiction
  · have G1 := P1.good
    obtain ⟨P2, F2, g2, np2, _⟩ := Pushed.end G1 hr2
    have C2 := hr2.cutAny (capsS_play G1 c)
    rcases h with ⟨hlt, _⟩ | ⟨rfl, rfl, _, rfl⟩
    · exfalso
      have hl := hr2.left (capsS_play G1 c)
      obtain ⟨T, a1, a2, a3⟩ := (hl.2.1 hlt).cut (pushL_play Q2 (capsS_play G1 c)).good mt mf (fun e => hne e.symm)
      have e1 := hl.1 T a1 a2
      have e2 := C1 T
      rw [← P1.caps, a1, a2] at e2
      have e3 := (capsS_play G c).good.cut0 T
      simp at e2
      omega
    · refine ⟨rfl, G1, P2.good, P2.lin.trans P1.lin, fun d p => ?_, fun T => ?_, hb⟩
      · rw [P2.pos, P1.pos]
        split
        · rw [np2, np]; omega
        · omega
      · rw [P2.caps, C2 T, P1.caps, C1 T]
        split <;> split <;> omega
/-- Where most goes no more does: whoever is reached lets out just so much. -/
theorem pay_stop {S : Lgr} {f t c : Nat} {most : Int} {P Q : List Flw} {M : BitVec 32} (G : S.Good) (hf : mayP f = true) (ht : mayP t = true) (hne : f ≠ t) (hm : RouteOut f t (capsS S c) 9223372036854775807 P most) (hq : RouteOut f t (capsS S c) most Q most) (h : Rch (pushL (capsS S c) Q) f 16 M) :
    M.getLsbD t = false ∧ cutS (capsS S c) M.getLsbD ≤ most := by
  have h0 := capsS_play G c
  have h2 := (pushL_play Q h0)
  have h1 := (mayP_iff f).1 hf
  obtain ⟨_, _, T, a1, a2, a3⟩ := hm.minCut h0 hf ht hne
  have e1 := hq.cutAny h0 T
  rw [a1, a2] at e1
  simp at e1
  have cT : Closed (pushL (capsS S c) Q) T := Closed.of_cut h2.good (by omega)
  have hMt : M.getLsbD t = false := by
    cases e : M.getLsbD t
    · rfl
    · have := h.snd T cT a1 t e
      rw [a2] at this; cases this
  have cM := (h.fin h2.good h1.1).cut h2.good
  have e2 := hq.cutAny h0 M.getLsbD
  rw [h.has, hMt] at e2
  simp at e2
  exact ⟨hMt, by omega⟩
end Go.Proofs.Ytgobnamhdkbbeaa
