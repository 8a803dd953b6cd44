/- What is pushed back (plain). -/
import Derived.Test.YtacglcpjbepfnaaLedPos
namespace Go.Proofs.Ytacglcpjbepfnaa
theorem push_P (S : Lgr) (f t c n : Int) : (pushS S f t c n).P = S.P := by unfold pushS; split <;> rfl
theorem trust_P (S : Lgr) (f t c n : Int) : (trustS S f t c n).P = S.P := by unfold trustS; split <;> rfl
theorem forg_P (S : Lgr) (f t c n : Int) : (forgS S f t c n).P = S.P := by unfold forgS; split <;> rfl
theorem open_L (S : Lgr) (a : Int) : (openS S a).L = S.L := by unfold openS; split <;> rfl
section
variable {S : Lgr} {L : List Lin} {a b c n m : Int}
theorem addL_addL (L : List Lin) (a b c n m : Int) : addL (addL L a b c n) a b c m = addL L a b c (n + m) := by
  unfold addL
  rw [List.map_map]
  refine List.map_congr_left fun x _ => ?_
  simp only [Function.comp]
  by_cases h : x.at a b c = true
  · rw [if_pos h]
    have h2 : Lin.at { x with deb := x.deb + n } a b c = true := h
    rw [if_pos h2, if_pos h]
    simp only [Int.add_assoc]
  · rw [if_neg h, if_neg h, if_neg h]
theorem addL_comm (L : List Lin) {a b a' b' : Int} (c n m : Int) (h : ¬ (a = a' ∧ b = b')) : addL (addL L a b c n) a' b' c m = addL (addL L a' b' c m) a b c n := by
  unfold addL
  rw [List.map_map, List.map_map]
  refine List.map_congr_left fun x _ => ?_
  simp only [Function.comp]
  have at1 : ∀ k, Lin.at { x with deb := k } a' b' c = x.at a' b' c := fun _ => rfl
  have at2 : ∀ k, Lin.at { x with deb := k } a b c = x.at a b c := fun _ => rfl
  by_cases h1 : x.at a b c = true
  · have h2 : ¬ (x.at a' b' c = true) := fun h2 => by
      obtain ⟨e1, e2, _⟩ := Lin.at_iff.1 h1
      obtain ⟨e3, e4, _⟩ := Lin.at_iff.1 h2
      exact h ⟨e1.symm.trans e3, e2.symm.trans e4⟩
    rw [if_pos h1, at1, if_neg h2, if_neg h2, if_pos h1]
  · by_cases h2 : x.at a' b' c = true
    · rw [if_neg h1, if_pos h2, at2, if_neg h1]
    · rw [if_neg h1, if_neg h2, if_neg h1]
theorem pushS_ok (h : pushE S a b c n = 0) : (pushS S a b c n).L = addL (addL S.L a b c (-fallOf S a b c n)) b a c (n - fallOf S a b c n) := by unfold pushS; rw [if_pos h]
theorem push_back (G : S.Good) (h : pushE S a b c n = 0) : pushE (pushS S a b c n) b a c n = 0 := by
  obtain ⟨h1, h2, h3, h4, h5⟩ := G.push0 h
  have hr := (push_room G h).2
  have hb := (G.room b a c).1
  unfold pushE
  rw [if_neg (by omega), hr, if_neg (by omega)]
theorem push_back_room (G : S.Good) (h : pushE S a b c n = 0) : roomOf (pushS (pushS S a b c n) b a c n) a b c = roomOf S a b c ∧ roomOf (pushS (pushS S a b c n) b a c n) b a c = roomOf S b a c := by
  have h2 := push_back G h
  have e1 := push_room G h
  have e2 := push_room (G.push a b c n) h2
  omega
theorem push_back_pos (G : S.Good) (h : pushE S a b c n = 0) (p : Int) : posL (pushS (pushS S a b c n) b a c n).L p c = posL S.L p c := by
  have h2 := push_back G h
  rw [push_pos (G.push a b c n) h2, push_pos G h]
  simp only [if_true]
  split <;> split <;> omega
theorem push_back_lines (G : S.Good) (h : pushE S a b c n = 0) (h0 : debOf S.L a b c = 0 ∨ debOf S.L b a c = 0) : (pushS (pushS S a b c n) b a c n).L = S.L := by
  have h2 := push_back G h
  obtain ⟨h1, hr, h3, h4, h5⟩ := G.push0 h
  have n1 := G.nums a b c
  have n2 := G.nums b a c
  have hE := pushS_ok h
  have hE2 := pushS_ok h2
  have hf : fallOf S a b c n + fallOf (pushS S a b c n) b a c n = n := by
    unfold fallOf
    rw [hE]
    simp only [debOf_add, isLine_add]
    rw [if_neg (fun e => h3 e.2.1.symm)]
    unfold roomOf at hr
    by_cases hl : isLine S.L b a c = true
    · rw [if_pos ⟨hl, trivial, trivial, trivial⟩]
      unfold fallOf
      omega
    · have hl : isLine S.L b a c = false := by simpa using hl
      have := Lgr.Good.noLine hl
      rw [if_neg (fun e => by rw [hl] at e; cases e.1)]
      unfold fallOf at *
      omega
  rw [hE2, hE, addL_addL, show n - fallOf S a b c n + -fallOf (pushS S a b c n) b a c n = 0 by omega, addL_zero, addL_addL, show -fallOf S a b c n + (n - fallOf (pushS S a b c n) b a c n) = 0 by omega, addL_zero]
end
end Go.Proofs.Ytacglcpjbepfnaa
