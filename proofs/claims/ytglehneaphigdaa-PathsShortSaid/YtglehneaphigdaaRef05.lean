/- countinghouseref05: a graph as a list of edges. -/
import Derived.Test.YtglehneaphigdaaGraph4
import Derived.Test.YtglehneaphigdaaHeapCalls
import Derived.Test.YtglehneaphigdaaFull
namespace Go.Proofs.Ytglehneaphigdaa
open Go.RowKit
set_option linter.unusedSimpArgs false
set_option linter.unusedVariables false
theorem cell_flows : CellTy 22 := ⟨⟨_, Try.underlying22, rfl⟩, by kernel_rfl⟩
abbrev rgC (v : Value) : Array Value := #[v]
theorem rgC_g (v : Value) : (rgC v)[0]? = some v := rfl
/-- The graph's cell, and its edges. -/
abbrev RgT (p : Nat) (v : Value) : Thing := Cel p (rgC v) 42
abbrev FlT (v : Value) (n : Nat) (F : List Flw) : Thing := RowT 35 3 v n (flwL F)
/-- The first capacity of these ends. -/
def capL : List Flw → Nat → Nat → Int
  | [], _, _ => 0
  | x :: F, a, b => if x.f = a ∧ x.t = b then x.n else capL F a b
theorem capL_app (a b : Nat) : ∀ (F G : List Flw), capL (F ++ G) a b = if F.any (fun x => decide (x.f = a ∧ x.t = b)) then capL F a b else capL G a b
  | [], G => rfl
  | x :: F, G => by
    rw [List.cons_append, capL, capL, List.any_cons]
    by_cases h : x.f = a ∧ x.t = b
    · simp [h]
    · rw [if_neg h, capL_app a b F G]
      simp [h]
theorem rowE_any (c : Caps) (r a b : Nat) : ∀ k, (rowE c r k).any (fun x => decide (x.f = a ∧ x.t = b)) = decide (r = a ∧ b < k ∧ 0 < c a b)
  | 0 => by simp [rowE]
  | k + 1 => by
    rw [rowE, List.any_append, rowE_any c r a b k]
    by_cases h : 0 < c r k
    · rw [if_pos h]
      simp only [List.any_cons, List.any_nil, Bool.or_false]
      rw [Bool.eq_iff_iff]
      simp only [Bool.or_eq_true, decide_eq_true_eq]
      constructor
      · rintro (⟨h1, h2, h3⟩ | ⟨rfl, rfl⟩)
        · exact ⟨h1, by omega, h3⟩
        · exact ⟨rfl, by omega, h⟩
      · rintro ⟨rfl, h2, h3⟩
        by_cases e : k = b
        · exact .inr ⟨rfl, e⟩
        · exact .inl ⟨rfl, by omega, h3⟩
    · rw [if_neg h]
      simp only [List.any_nil, Bool.or_false]
      rw [Bool.eq_iff_iff]
      simp only [decide_eq_true_eq]
      constructor
      · rintro ⟨h1, h2, h3⟩; exact ⟨h1, by omega, h3⟩
      · rintro ⟨rfl, h2, h3⟩
        refine ⟨rfl, ?_, h3⟩
        have : b ≠ k := fun e => by subst e; exact h h3
        omega
theorem rowE_cap (c : Caps) (r a b : Nat) : ∀ k, capL (rowE c r k) a b = if r = a ∧ b < k ∧ 0 < c a b then c a b else 0
  | 0 => by simp [rowE, capL]
  | k + 1 => by
    rw [rowE, capL_app, rowE_any, rowE_cap c r a b k]
    by_cases h1 : r = a ∧ b < k ∧ 0 < c a b
    · rw [if_pos (by simpa using h1), if_pos h1, if_pos ⟨h1.1, by omega, h1.2.2⟩]
    · rw [if_neg (by simpa using h1)]
      by_cases h : 0 < c r k
      · rw [if_pos h]
        show (if r = a ∧ k = b then c r k else 0) = _
        by_cases h2 : r = a ∧ k = b
        · obtain ⟨rfl, rfl⟩ := h2
          rw [if_pos ⟨rfl, rfl⟩, if_pos ⟨rfl, by omega, h⟩]
        · rw [if_neg h2, if_neg]
          rintro ⟨e1, e2, e3⟩
          exact h1 ⟨e1, by have : b ≠ k := fun e => h2 ⟨e1, e.symm⟩
                           omega, e3⟩
      · rw [if_neg h]
        show (0 : Int) = _
        rw [if_neg]
        rintro ⟨rfl, e2, e3⟩
        exact h1 ⟨rfl, by have : b ≠ k := fun e => by subst e; exact h e3
                          omega, e3⟩
theorem matE_any (c : Caps) (a b : Nat) : ∀ k, (matE c k).any (fun x => decide (x.f = a ∧ x.t = b)) = decide (a < k ∧ b < 17 ∧ 0 < c a b)
  | 0 => by simp [matE]
  | k + 1 => by
    rw [matE, List.any_append, matE_any c a b k, rowE_any]
    rw [Bool.eq_iff_iff]
    simp only [Bool.or_eq_true, decide_eq_true_eq]
    constructor
    · rintro (⟨h1, h2, h3⟩ | ⟨rfl, h2, h3⟩)
      · exact ⟨by omega, h2, h3⟩
      · exact ⟨by omega, h2, h3⟩
    · rintro ⟨h1, h2, h3⟩
      by_cases e : k = a
      · exact .inr ⟨e, h2, h3⟩
      · exact .inl ⟨by omega, h2, h3⟩
theorem matE_cap (c : Caps) (a b : Nat) : ∀ k, capL (matE c k) a b = if a < k ∧ b < 17 ∧ 0 < c a b then c a b else 0
  | 0 => by simp [matE, capL]
  | k + 1 => by
    rw [matE, capL_app, matE_any, matE_cap c a b k, rowE_cap]
    by_cases h : a < k ∧ b < 17 ∧ 0 < c a b
    · rw [if_pos (by simpa using h), if_pos h, if_pos ⟨by omega, h.2⟩]
    · rw [if_neg (by simpa using h)]
      by_cases h2 : k = a ∧ b < 17 ∧ 0 < c a b
      · rw [if_pos h2, if_pos ⟨by omega, h2.2⟩]
      · rw [if_neg h2, if_neg]
        rintro ⟨h3, h4⟩
        by_cases e : k = a
        · exact h2 ⟨e, h4⟩
        · exact h ⟨by omega, h4⟩
/-- Capacities such as a graph has. -/
structure GoodC (c : Caps) : Prop where
  ge : ∀ a b, 0 ≤ c a b
  may : ∀ a b, 0 < c a b → mayP a = true ∧ mayP b = true
theorem GoodC.cap {c : Caps} (h : GoodC c) (a b : Nat) : capL (edgesOf c) a b = c a b := by
  unfold edgesOf
  rw [matE_cap]
  by_cases hp : 0 < c a b
  · have := h.may a b hp
    have h1 := mayP_true this.1
    have h2 := mayP_true this.2
    rw [if_pos ⟨by omega, by omega, hp⟩]
  · rw [if_neg (fun h => hp h.2.2)]
    have := h.ge a b
    omega
theorem GoodC.capOf {c : Caps} (h : GoodC c) (a b : Nat) : capOf c a b = c a b := by
  unfold Proofs.Ytglehneaphigdaa.capOf
  split
  · rfl
  · rename_i hn
    have := h.ge a b
    by_cases hp : 0 < c a b
    · exact absurd (h.may a b hp) hn
    · omega
theorem GoodC.zero : GoodC zeroC := ⟨fun _ _ => Int.le_refl _, fun _ _ h => absurd h (by show ¬ (0 : Int) < 0; omega)⟩
theorem GoodC.upd {c : Caps} (h : GoodC c) {a b : Nat} {n : Int} (ha : mayP a = true) (hb : mayP b = true) (hn : 0 ≤ n) : GoodC (upd2 c a b n) := by
  refine ⟨fun x y => ?_, fun x y hp => ?_⟩
  · unfold upd2
    split
    · exact hn
    · exact h.ge x y
  · unfold upd2 at hp
    split at hp
    · rename_i e; obtain ⟨rfl, rfl⟩ := e; exact ⟨ha, hb⟩
    · exact h.may x y hp
theorem GoodC.row0 {c : Caps} (h : GoodC c) : ∀ k, rowE c 0 k = []
  | 0 => rfl
  | k + 1 => by
    rw [rowE, h.row0 k, if_neg]
    · rfl
    · intro hp
      have := (h.may 0 k hp).1
      simp [mayP] at this
theorem GoodC.col0 {c : Caps} (h : GoodC c) (a : Nat) : rowE c a 1 = [] := by
  rw [rowE, rowE, if_neg]
  · rfl
  · intro hp
    have := (h.may a 0 hp).2
    simp [mayP] at this
theorem GoodC.mat1 {c : Caps} (h : GoodC c) : matE c 1 = [] := by rw [matE, matE, h.row0]; rfl
/-- The cells of a flow in a list that can be read. -/
theorem flwL_rd {w : World} {b o k : Nat} {F : List Flw} {x : Flw} (R : Rd w (some ⟨b, o, none⟩) (flwL F)) (hk : F[k]? = some x) : w.cell? ⟨b, o + k * 3, none⟩ = some (.int .u8 (x.f : Int)) ∧ w.cell? ⟨b, o + k * 3 + 1, none⟩ = some (.int .u8 (x.t : Int)) ∧ w.cell? ⟨b, o + k * 3 + 2, none⟩ = some (.int .i64 x.n) := by
  have hlt : k < F.length := by
    apply Classical.byContradiction
    intro hn
    rw [List.getElem?_eq_none (by omega)] at hk
    cases hk
  have hl := flwL_len F
  have hat := flwL_at F k hlt
  rw [List.getElem?_eq_getElem hlt] at hk
  rw [Option.some.inj hk] at hat
  have key : ∀ j v, j < 3 → (flwV x)[j]? = some v → w.cell? ⟨b, o + k * 3 + j, none⟩ = some v := fun j v hj hv => by
    rw [← hat, List.getElem?_take, if_pos hj, List.getElem?_drop] at hv
    have hi : k * 3 + j < (flwL F).length := by omega
    rw [List.getElem?_eq_getElem hi] at hv
    have := R.get hi
    rw [Nat.add_assoc, this]
    exact hv
  exact ⟨key 0 _ (by omega) rfl, key 1 _ (by omega) rfl, key 2 _ (by omega) rfl⟩
theorem rowT_rd {W w : World} {l : List Thing} {e size n c : Nat} {a : Option Addr} {xs : List Value} (H : Heap W l w) (m : RowT e size (.slice a n c) n xs ∈ l) : Rd w a xs := by
  obtain ⟨a', c', he, hr, _⟩ := (Own.ofRow (H.ok _ m)).rd
  simp only [Value.slice.injEq, true_and] at he
  obtain ⟨rfl, _⟩ := he
  exact hr
theorem rowT_form {w : World} {e size n : Nat} {v : Value} {xs : List Value} (h : (RowT e size v n xs).ok w) : ∃ a c, v = .slice a n c ∧ n ≤ c ∧ c ≤ maxLen := by
  obtain ⟨a, c, e, _, h1, h2, _⟩ := (Own.ofRow h).rd
  exact ⟨a, c, e, h1, h2⟩
structure CapLoop (W : World) (l : List Thing) (F : List Flw) (n f t : Nat) (i : Value) (wr : World) : Prop where
  out : ∃ k : Nat, i = .int .i64 (k : Int) ∧ k ≤ n ∧ capL F f t = capL (F.drop k) f t ∧ Heap W l wr
section
variable {W w : World} {l : List Thing} {p n : Nat} {a : Option Addr} {cc : Nat} {F : List Flw}
set_option maxRecDepth 100000
set_option maxHeartbeats 4000000
theorem rcap_H (f t : Nat) (hf : f ≤ 255) (ht : t ≤ 255) (m1 : RgT p (.slice a n cc) ∈ l) (m2 : FlT (.slice a n cc) n F ∈ l) (hl : F.length = n) (hn : n ≤ 1000000) (hF : ∀ x ∈ F, FlwOk x) :
    AnsH W l 22 #[.pointer (some ⟨p, 0, none⟩), .int .u8 (f : Int), .int .u8 (t : Int)] (.int .i64 (capL F f t)) := by
  intro w H
  have HL := Lib.hid hl
  have HF := Lib.hid hF
  have HR := Lib.hid (show ∀ w', Heap W l w' → Rd w' a (flwL F) from fun w' h => rowT_rd h m2)
  clear hl hF
  generalize hcap : capL F f t = cv
  have HC := Lib.hid hcap
  clear hcap
  go_enter Try.func22, Try.ntmps22
  go_wp2_with (go_skip)
  have H0 := H
  clear H
  go_loopw [7] (fun i wr => CapLoop W l F n f t i wr) (fun i _ => n - (intOf i).toNat)
  case atStart => exact ⟨0, rfl, by omega, rfl, H0⟩
  case round =>
    obtain ⟨k, rfl, hk, hG, H'⟩ := hrel.out
    clear H0 hrel
    have H := H'
    clear H'
    by_cases hlt : k < n
    · have hkF : k < F.length := by rw [HL.out]; exact hlt
      have hx : F[k]? = some F[k] := List.getElem?_eq_getElem hkF
      have hok := HF.out _ (List.getElem_mem hkF)
      rw [List.drop_eq_getElem_cons hkF, capL] at hG
      generalize F[k] = x at *
      obtain ⟨b, o, rfl, _⟩ := (HR.out _ H).lt (by rw [flwL_len]; omega)
      have HX := Lib.hid (show ∀ w', Heap W l w' → _ from fun w' h => flwL_rd (HR.out w' h) hx)
      obtain ⟨xf, xt, xn⟩ := x
      obtain ⟨o1, o2, o3, o4⟩ := hok
      simp only at o1 o2 o3 o4 hG
      clear hx hkF
      by_cases e1 : xf = f
      · by_cases e2 : xt = t
        · subst e1 e2
          rw [if_pos ⟨rfl, rfl⟩] at hG
          have g1 : ((xf : Int) == (xf : Int)) = true := by simp
          have g2 : ((xt : Int) == (xt : Int)) = true := by simp
          have HG := Lib.hid hG
          clear hG
          go_wp2_with (first
            | go_skip
            | ((with_reducible show wpList _ _ _ (_ :: _) _ _); (with_reducible apply wpl_loadCH); (· exact cell_flows); (· rfl); (· rfl); (· exact H); (· exact m1); (· exact rgC_g _); (simp only [Act.put, List.setIfInBounds_toArray, List.set_cons_zero, List.set_cons_succ]))
            | ((with_reducible show wpList _ _ _ (_ :: _) _ _); (with_reducible apply wpl_loadCell); (· first | exact cell_party | exact cell_i64); (· rfl); (· rfl); (· first | exact (HX.out _ H).1 | exact (HX.out _ H).2.1 | exact (HX.out _ H).2.2); (simp only [Act.put, List.setIfInBounds_toArray, List.set_cons_zero, List.set_cons_succ])))
          go_ret
          rw [show cv = _ from HC.out.symm.trans HG.out]
          exact ⟨rfl, H⟩
        · rw [if_neg (fun h => e2 h.2)] at hG
          subst e1
          have g1 : ((xf : Int) == (xf : Int)) = true := by simp
          have g2 : ((xt : Int) == (t : Int)) = false := by simp; omega
          have HG := Lib.hid hG
          clear hG
          go_wp2_with (first
            | go_skip
            | ((with_reducible show wpList _ _ _ (_ :: _) _ _); (with_reducible apply wpl_loadCH); (· exact cell_flows); (· rfl); (· rfl); (· exact H); (· exact m1); (· exact rgC_g _); (simp only [Act.put, List.setIfInBounds_toArray, List.set_cons_zero, List.set_cons_succ]))
            | ((with_reducible show wpList _ _ _ (_ :: _) _ _); (with_reducible apply wpl_loadCell); (· first | exact cell_party | exact cell_i64); (· rfl); (· rfl); (· first | exact (HX.out _ H).1 | exact (HX.out _ H).2.1 | exact (HX.out _ H).2.2); (simp only [Act.put, List.setIfInBounds_toArray, List.set_cons_zero, List.set_cons_succ])))
          refine ⟨?_, ?_⟩
          · exact ⟨⟨k + 1, by go_num, by omega, HG.out, H⟩⟩
          · simp [intOf]; omega
      · rw [if_neg (fun h => e1 h.1)] at hG
        have g1 : ((xf : Int) == (f : Int)) = false := by simp; omega
        have HG := Lib.hid hG
        clear hG
        go_wp2_with (first
          | go_skip
          | ((with_reducible show wpList _ _ _ (_ :: _) _ _); (with_reducible apply wpl_loadCH); (· exact cell_flows); (· rfl); (· rfl); (· exact H); (· exact m1); (· exact rgC_g _); (simp only [Act.put, List.setIfInBounds_toArray, List.set_cons_zero, List.set_cons_succ]))
          | ((with_reducible show wpList _ _ _ (_ :: _) _ _); (with_reducible apply wpl_loadCell); (· first | exact cell_party | exact cell_i64); (· rfl); (· rfl); (· first | exact (HX.out _ H).1 | exact (HX.out _ H).2.1 | exact (HX.out _ H).2.2); (simp only [Act.put, List.setIfInBounds_toArray, List.set_cons_zero, List.set_cons_succ])))
        refine ⟨?_, ?_⟩
        · exact ⟨⟨k + 1, by go_num, by omega, HG.out, H⟩⟩
        · simp [intOf]; omega
    · obtain rfl : n = k := by omega
      rw [List.drop_of_length_le (by rw [HL.out]; exact Nat.le_refl _)] at hG
      have HG := Lib.hid (show capL F f t = 0 from hG)
      clear hG
      go_wp2_with (first
        | go_skip
        | ((with_reducible show wpList _ _ _ (_ :: _) _ _); (with_reducible apply wpl_loadCH); (· exact cell_flows); (· rfl); (· rfl); (· exact H); (· exact m1); (· exact rgC_g _); (simp only [Act.put, List.setIfInBounds_toArray, List.set_cons_zero, List.set_cons_succ])))
      go_ret
      rw [show cv = _ from HC.out.symm.trans HG.out]
      exact ⟨rfl, H⟩
end
end Go.Proofs.Ytglehneaphigdaa
