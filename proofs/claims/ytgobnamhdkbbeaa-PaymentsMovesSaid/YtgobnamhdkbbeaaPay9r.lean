/- What a payment moves; one that does not go. (Plain.) -/
import Derived.Test.YtgobnamhdkbbeaaPay9q
namespace Go.Proofs.Ytgobnamhdkbbeaa
/-- A payment that goes. -/
theorem pay_moved {S S1 : Lgr} {f t c : Nat} {n k most : Int} {Q0 : List Flw} (G : S.Good) (h : PayOut S f t c n k 0 S1) (hm : RouteOut f t (capsS S c) 9223372036854775807 Q0 most) :
    ¬ badPay f t c n ∧ n ≤ most ∧ 1 ≤ k ∧ S1.Good ∧ noDeb S1.L = noDeb S.L ∧ ∀ d p : Nat, posL S1.L p d = posL S.L p d + (if c = d then (if t = p then n else 0) - (if f = p then n else 0) else 0) := by
  rcases h with ⟨_, h, _⟩ | ⟨_, _, h, _⟩ | ⟨hb, hf, ht, Q, got, hr, ⟨_, h, _⟩ | ⟨rfl, _, rfl, rfl⟩⟩
  · omega
  · omega
  · omega
  obtain ⟨mf, mt, hne, h1, _⟩ := pay_ends hb
  obtain ⟨P1, F1, g0, np, _⟩ := Pushed.end G hr
  have hx := RouteOut.max (capsS_play G c) mf mt hne (by omega) hr hm (by omega)
  refine ⟨hb, by omega, ?_, P1.good, P1.lin, fun d p => by rw [P1.pos, np]⟩
  have h2 := np t
  rw [if_pos rfl, if_neg hne] at h2
  cases Q with
  | nil => simp [netP] at h2; omega
  | cons x Q => simp; omega
/-- One that does not go. -/
theorem pay_stuck {S S1 : Lgr} {f t c : Nat} {n k most : Int} {Q0 : List Flw} (G : S.Good) (h : PayOut S f t c n k 11 S1) (hm : RouteOut f t (capsS S c) 9223372036854775807 Q0 most) :
    ¬ badPay f t c n ∧ (f : Int) ∈ S.P ∧ (t : Int) ∈ S.P ∧ 0 ≤ most ∧ most < n := by
  rcases h with ⟨_, h, _⟩ | ⟨_, _, h, _⟩ | ⟨hb, hf, ht, Q, got, hr, ⟨hlt, _, _, _⟩ | ⟨_, h, _⟩⟩
  · omega
  · omega
  · obtain ⟨mf, mt, hne, h1, _⟩ := pay_ends hb
    have hx := RouteOut.max (capsS_play G c) mf mt hne (by omega) hr hm (by omega)
    have := hm.minCut (capsS_play G c) mf mt hne
    exact ⟨hb, hf, ht, by omega, by omega⟩
  · omega
/-- As much as goes at most goes. -/
theorem pay_most {S S2 : Lgr} {f t c : Nat} {n k2 e2 most : Int} {Q0 : List Flw} (G : S.Good) (hb : ¬ badPay f t c n) (hf : (f : Int) ∈ S.P) (ht : (t : Int) ∈ S.P) (h1 : 1 ≤ most) (h2 : most < n) (hm : RouteOut f t (capsS S c) 9223372036854775807 Q0 most) (g : PayOut S f t c most k2 e2 S2) :
    e2 = 0 ∧ S2.Good ∧ ∃ Q, RouteOut f t (capsS S c) most Q most ∧ capsS S2 c = pushL (capsS S c) Q := by
  obtain ⟨mf, mt, hne, _⟩ := pay_ends hb
  rcases g with ⟨h, _⟩ | ⟨_, h, _⟩ | ⟨_, _, _, Q, got, hr, h⟩
  · unfold badPay at h hb; omega
  · rcases h with h | h <;> contradiction
  · have hx := RouteOut.max (capsS_play G c) mf mt hne (by omega) hr hm (by omega)
    rcases h with ⟨h, _⟩ | ⟨rfl, rfl, _, rfl⟩
    · omega
    · have P := (Pushed.end G hr).1
      exact ⟨rfl, P.good, Q, hr, P.caps⟩
theorem pay_zero {S : Lgr} {f t c : Nat} : RouteOut f t (capsS S c) 0 [] 0 ∧ capsS S c = pushL (capsS S c) [] := ⟨.no (by omega), rfl⟩
theorem pay_err {S S1 : Lgr} {f t c : Nat} {n k e : Int} (h : PayOut S f t c n k e S1) (h0 : e ≠ 0) : k = 0 ∧ S1 = S ∧ (e = 1 ∨ e = 7 ∧ ((f : Int) ∉ S.P ∨ (t : Int) ∉ S.P) ∨ e = 11) := by
  rcases h with ⟨_, rfl, rfl, rfl⟩ | ⟨_, h, rfl, rfl, rfl⟩ | ⟨_, _, _, Q, got, _, ⟨_, rfl, rfl, rfl⟩ | ⟨_, rfl, _, _⟩⟩
  · exact ⟨rfl, rfl, .inl rfl⟩
  · exact ⟨rfl, rfl, .inr (.inl ⟨rfl, h⟩)⟩
  · exact ⟨rfl, rfl, .inr (.inr rfl)⟩
  · exact absurd rfl h0
end Go.Proofs.Ytgobnamhdkbbeaa
