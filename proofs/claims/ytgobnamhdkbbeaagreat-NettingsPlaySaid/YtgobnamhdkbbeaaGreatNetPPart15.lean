/- Part 15 of what ProofNettingsPlay stands on: Ref08, RefTot. -/
import Derived.Test.YtgobnamhdkbbeaaGreatNetPPart14
/- countinghouseref08.Least. -/
namespace Go.Proofs.YtgobnamhdkbbeaaGreat
open Go.RowKit
set_option linter.unusedSimpArgs false
set_option linter.unusedVariables false
def i64L (N : List Int) : List Value := N.map (Value.int .i64)
theorem i64L_len (N : List Int) : (i64L N).length = N.length := by simp [i64L]
theorem i64L_at {N : List Int} {i : Nat} {m : Int} (h : N[i]? = some m) : (i64L N)[i]? = some (.int .i64 m) := by simp [i64L, h]
theorem i64L_set (N : List Int) (i : Nat) (m : Int) : (i64L N).set i (.int .i64 m) = i64L (N.set i m) := by unfold i64L; rw [List.map_set]
theorem slI8 : SlTy Tryz.prog 116 2 1 8 (.int .i64 0) := slTy_mk Tryz.underlying116 (by kernel_rfl) rfl (by decide)
theorem slN8 : SlTy Tryz.prog 103 3 1 8 (.int .i64 0) := slTy_mk Tryz.underlying103 (by kernel_rfl) rfl (by decide)
theorem slB8 : SlTy Tryz.prog 122 4 1 1 (.bool false) := slTy_mk Tryz.underlying122 (by kernel_rfl) rfl (by decide)
theorem cell_int8 : CellTy 3 := ⟨⟨_, Tryz.underlying3, rfl⟩, by kernel_rfl⟩
theorem slR8 : SlTy Tryz.prog 117 120 3 3 (.agg (edg 0 0 0)) := slTy_mk Tryz.underlying117 (by kernel_rfl) rfl (by decide)
theorem bs_redg8 : Tryz.prog.underlying 117 = some (.slice 120) ∧ (Tryz.prog.info? 120).map (fun i => (i.size, i.zero.map Value.cells)) = some ((edg 0 0 0).size, some (edg 0 0 0)) ∧ 0 < (edg 0 0 0).size ∧ (edg 0 0 0).size ≤ 65536 := ⟨Tryz.underlying117, by kernel_rfl, by decide, by decide⟩
theorem made_zero (z : Value) (hz : z.cells = #[z]) (m : Nat) : (madeCells z.cells (m * 1)).toList = List.replicate m z := by
  unfold madeCells
  rw [hz]
  apply List.ext_getElem
  · simp
  · intro i h1 h2
    simp [Nat.mod_one]
theorem own_at {W : World} {L : List Thing} {e n c g j : Nat} {xs : List Value} {v : Value} (m : OwnT e 1 (.slice (some ⟨g, 0, none⟩) n c) n xs ∈ L) (h : xs[j]? = some v) : ∀ w', Heap W L w' → w'.cell? ⟨g, j, none⟩ = some v := fun w' H => by
  have hj := (List.getElem?_eq_some_iff.1 h).1
  have := (H.ownRd m).get (i := j) hj
  rw [Nat.zero_add] at this
  rw [this, (List.getElem?_eq_some_iff.1 h).2]
theorem own_sub {W : World} {B : List Thing} {e n c g j : Nat} {xs : List Value} {v : Value} (m : OwnT e 1 (.slice (some ⟨g, 0, none⟩) n c) n xs ∈ B) (h : xs[j]? = some v) : ∀ L' w', (∀ x ∈ B, x ∈ L') → Heap W L' w' → w'.cell? ⟨g, j, none⟩ = some v := fun L' w' hh H => own_at (hh _ m) h w' H
abbrev LfT (g n : Nat) (N : List Int) : Thing := OwnT 2 1 (.slice (some ⟨g, 0, none⟩) n n) n (i64L N)
/-- left so far: the first ones are the debts' numbers. -/
def LfIn (F : List Flw) (xs : List Value) (k : Nat) : Prop := ∀ j x, j < k → F[j]? = some x → xs[j]? = some (.int .i64 x.n)
theorem LfIn.put {F : List Flw} {xs : List Value} {k : Nat} {x : Flw} (h : LfIn F xs k) (hx : F[k]? = some x) (hl : k < xs.length) : LfIn F (xs.set k (.int .i64 x.n)) (k + 1) := by
  intro j y hj hy
  by_cases e : j = k
  · subst e; rw [hx] at hy; cases hy; exact List.getElem?_set_self hl
  · rw [List.getElem?_set_ne (by omega)]; exact h j y (by omega) hy
theorem LfIn.all {F : List Flw} {xs : List Value} (h : LfIn F xs F.length) (hl : xs.length = F.length) : xs = i64L (F.map Flw.n) := by
  apply List.ext_getElem?
  intro i
  by_cases hi : i < F.length
  · rw [h i F[i] hi (List.getElem?_eq_getElem hi), i64L_at (m := F[i].n) (by rw [List.getElem?_map, List.getElem?_eq_getElem hi]; rfl)]
  · rw [List.getElem?_eq_none (by omega), List.getElem?_eq_none (by rw [i64L_len, List.length_map]; omega)]
structure RfA (W : World) (l : List Thing) (F : List Flw) (g n : Nat) (i : Value) (wr : World) : Prop where
  out : ∃ (k : Nat) (xs : List Value), k ≤ n ∧ i = .int .i64 (k : Int) ∧ xs.length = n ∧ LfIn F xs k ∧ Heap W (OwnT 2 1 (.slice (some ⟨g, 0, none⟩) n n) n xs :: l) wr
structure RfB (W : World) (l : List Thing) (F : List Flw) (g n : Nat) (q : Int) (j : Value) (wr : World) : Prop where
  out : ∃ (k : Nat) (N : List Int), j = .int .i64 (k : Int) ∧ RdTr F k N ∧ (k : Int) ≤ q ∧ Heap W (LfT g n N :: l) wr
structure RfC (W : World) (l : List Thing) (F : List Flw) (N : List Int) (n : Nat) (v i : Value) (wr : World) : Prop where
  out : ∃ k : Nat, k ≤ n ∧ i = .int .i64 (k : Int) ∧ Heap W (RowT 120 3 v (edD (F.take k) (N.take k)).length (edgL (edD (F.take k) (N.take k))) :: l) wr
/-- What is found so far, of what satisfies P. -/
def FdC (P : Nat → Prop) (k : Nat) (z : Int) : Prop := (z = -1 ∧ ∀ j, j < k → ¬ P j) ∨ ∃ j, j < k ∧ P j ∧ z = (j : Int)
theorem FdC.start (P : Nat → Prop) : FdC P 0 (-1) := .inl ⟨rfl, fun j hj => absurd hj (by omega)⟩
theorem FdC.yes {P : Nat → Prop} {k : Nat} (h : P k) : FdC P (k + 1) (k : Int) := .inr ⟨k, by omega, h, rfl⟩
theorem FdC.no {P : Nat → Prop} {k : Nat} {z : Int} (f : FdC P k z) (h : ¬ P k) : FdC P (k + 1) z := by
  rcases f with ⟨h1, h2⟩ | ⟨j, h1, h2⟩
  · exact .inl ⟨h1, fun j hj => by
      by_cases e : j = k
      · subst e; exact h
      · exact h2 j (by omega)⟩
  · exact .inr ⟨j, by omega, h2⟩
def revAt (F : List Flw) (a b j : Nat) : Prop := ∃ x, F[j]? = some x ∧ x.f = b ∧ x.t = a
theorem FdC.fwd {F : List Flw} {N : List Int} (hM : MayD F) {a b i n : Nat} {back : Bool} {z : Int} (hl : F.length = n) (hS : StepIs F N a b i back) (h : FdC (fwdAt F N a b) n z) : (back = false ∧ z = (i : Int)) ∨ (back = true ∧ z = -1) := by
  rcases h with ⟨rfl, h⟩ | ⟨j, h1, h2, rfl⟩
  · right
    refine ⟨?_, rfl⟩
    obtain ⟨x, m, x1, x2, ⟨rfl, x3, x4, x5⟩ | ⟨rfl, _⟩⟩ := hS
    · exact absurd ⟨x, m, x1, x2, x3, x4, x5⟩ (h i (by rw [← hl]; exact (List.getElem?_eq_some_iff.1 x1).1))
    · rfl
  · left
    obtain ⟨rfl, rfl⟩ := fwd_is hM hS h2
    exact ⟨rfl, rfl⟩
theorem FdC.rev {F : List Flw} {N : List Int} (hM : MayD F) {a b i n : Nat} {z : Int} (hl : F.length = n) (hS : StepIs F N a b i true) (h : FdC (revAt F a b) n z) : z = (i : Int) := by
  obtain ⟨x, m, x1, x2, ⟨h0, _⟩ | ⟨_, x3, x4, _⟩⟩ := hS
  · cases h0
  · rcases h with ⟨rfl, h⟩ | ⟨j, h1, ⟨y, y1, y2, y3⟩, rfl⟩
    · exact absurd ⟨x, x1, x3, x4⟩ (h i (by rw [← hl]; exact (List.getElem?_eq_some_iff.1 x1).1))
    · rw [hM.uniq x1 y1 (by omega) (by omega)]
/-- The steps' debts, and whether each is given back, as rows. -/
def AtIn (S : List (Nat × Bool)) (xa xb : List Value) (k : Nat) : Prop := (∀ j i b, j < k → S[j]? = some (i, b) → xa[j]? = some (.int .i64 (i : Int)) ∧ xb[j]? = some (.bool b)) ∧ ∀ j, k ≤ j → j < S.length → xb[j]? = some (.bool false)
structure RfD (W : World) (l : List Thing) (F : List Flw) (N : List Int) (S : List (Nat × Bool)) (ga gb tn : Nat) (m i : Value) (wr : World) : Prop where
  out : ∃ (k : Nat) (xa xb : List Value), k ≤ tn ∧ i = .int .i64 (k : Int) ∧ m = .int .i64 (minS F N 1099511627776 (S.take k)) ∧ xa.length = tn ∧ xb.length = tn ∧ AtIn S xa xb k ∧ Heap W (OwnT 3 1 (.slice (some ⟨ga, 0, none⟩) tn tn) tn xa :: OwnT 4 1 (.slice (some ⟨gb, 0, none⟩) tn tn) tn xb :: l) wr
structure RfE (W : World) (l : List Thing) (P : Nat → Prop) (xa : List Value) (ga tn n k : Nat) (i : Value) (wr : World) : Prop where
  out : ∃ (j : Nat) (z : Int), j ≤ n ∧ i = .int .i64 (j : Int) ∧ FdC P j z ∧ Heap W (OwnT 3 1 (.slice (some ⟨ga, 0, none⟩) tn tn) tn (xa.set k (.int .i64 z)) :: l) wr
structure RfG (W : World) (l l2 : List Thing) (N : List Int) (S : List (Nat × Bool)) (v : Int) (g n tn : Nat) (i : Value) (wr : World) : Prop where
  out : ∃ k : Nat, k ≤ tn ∧ i = .int .i64 (k : Int) ∧ Heap W (LfT g n (goS v (S.take k) N) :: l2) wr
section
variable {W w : World} {l : List Thing}
set_option maxRecDepth 100000
set_option maxHeartbeats 16000000
theorem refround_H {F : List Flw} {N : List Int} (hM : MayD F) (hl : F.length ≤ 400) (ea : Option Addr) (ec : Nat) (H : Heap W (RowT 120 3 (.slice ea (edD F N).length ec) (edD F N).length (edgL (edD F N)) :: l) w) :
    Calls Tryz.prog 65 #[.slice ea (edD F N).length ec] w fun e w' => ∃ a c, e = .returned (.slice a (roundOf (edD F N)).length c) ∧ Heap W (OwnT 30 1 (.slice a (roundOf (edD F N)).length c) (roundOf (edD F N)).length ((roundOf (edD F N)).map pv) :: l) w' := by
  have h1 := edD_len F N
  have C := ref_round_H (W := W) ea _ ec (edD F N) rfl (by omega) (fun e he => by have := edD_ok hM e he; exact ⟨by omega, by omega, by omega, by omega⟩) (fun l' w' hh H' => H'.rowRd (hh _ List.mem_cons_self)) H
  refine C.mono ?_
  rintro e w' ⟨v, rfl, H'⟩
  rw [edD_keep hM] at H'
  obtain ⟨a, c, rfl, _, _⟩ := OwnT.form0 (H'.ok _ List.mem_cons_self)
  exact ⟨a, c, rfl, H'.drop (.there .here)⟩
theorem AtIn.put1 {S : List (Nat × Bool)} {xa xb : List Value} {k i : Nat} (h : AtIn S xa xb k) (hs : S[k]? = some (i, true)) (ha : k < xa.length) (hb : k < xb.length) : AtIn S (xa.set k (.int .i64 (i : Int))) (xb.set k (.bool true)) (k + 1) := by
  refine ⟨fun j i' b' hj h1 => ?_, fun j hj h1 => ?_⟩
  · by_cases e : j = k
    · subst e
      rw [hs] at h1
      cases h1
      exact ⟨List.getElem?_set_self ha, List.getElem?_set_self hb⟩
    · rw [List.getElem?_set_ne (by omega), List.getElem?_set_ne (by omega)]
      exact h.1 j i' b' (by omega) h1
  · rw [List.getElem?_set_ne (by omega)]
    exact h.2 j (by omega) h1
theorem AtIn.put0 {S : List (Nat × Bool)} {xa xb : List Value} {k i : Nat} (h : AtIn S xa xb k) (hs : S[k]? = some (i, false)) (ha : k < xa.length) : AtIn S (xa.set k (.int .i64 (i : Int))) xb (k + 1) := by
  refine ⟨fun j i' b' hj h1 => ?_, fun j hj h1 => h.2 j (by omega) h1⟩
  by_cases e : j = k
  · subst e
    rw [hs] at h1
    cases h1
    exact ⟨List.getElem?_set_self ha, h.2 j (Nat.le_refl _) (List.getElem?_eq_some_iff.1 hs).1⟩
  · rw [List.getElem?_set_ne (by omega)]
    exact h.1 j i' b' (by omega) h1
theorem mostS_at {F : List Flw} {N : List Int} {i : Nat} {x : Flw} {m : Int} (hx : F[i]? = some x) (hm : N[i]? = some m) (b : Bool) : mostS F N i b = if b then x.n - m else m := by
  unfold mostS
  simp only [List.getD_eq_getElem?_getD, List.getElem?_map, hx, hm, Option.map_some, Option.getD_some]
section
variable {l' : List Thing} {ops : Array Oper} {rest : List Oper} {a : Act} {Q : Exit → Act → World → Prop} {T e : TypeId} {dst : Option Tmp} {ty : TypeId} {pos : String} {after : Array Edge} {guard : Option (Nat × Bool)} {x y : Operand} {g ad off n c size j : Nat} {xs : List Value}
theorem wpl_storeOwnI {k0 : IntKind} {n0 : Int} (CT : CellTy T) (hw : Region.wanted ⟨dst, .store T x y, ty, pos, after, guard⟩ (yielded ops a.tmps) = true) (hx : a.eval x = .pointer (some ⟨g, ad, none⟩)) (hy : a.eval y = .int k0 n0)
    (H : Heap W l w) (m : OwnT e size (.slice (some ⟨g, off, none⟩) n c) n xs ∈ l) (hk : ad = off + j) (hj : j < xs.length) (r : Repl l (OwnT e size (.slice (some ⟨g, off, none⟩) n c) n xs) (OwnT e size (.slice (some ⟨g, off, none⟩) n c) n (xs.set j (.int k0 n0))) l')
    (h : ∀ w', Heap W l' w' → wpList Tryz.prog ops Q rest (a.put dst undef) w') : wpList Tryz.prog ops Q (⟨dst, .store T x y, ty, pos, after, guard⟩ :: rest) a w := wpl_storeOwnC CT hw hx hy ⟨rfl, rfl⟩ H m hk hj r h
theorem wpl_storeOwnB {b0 : Bool} (CT : CellTy T) (hw : Region.wanted ⟨dst, .store T x y, ty, pos, after, guard⟩ (yielded ops a.tmps) = true) (hx : a.eval x = .pointer (some ⟨g, ad, none⟩)) (hy : a.eval y = .bool b0)
    (H : Heap W l w) (m : OwnT e size (.slice (some ⟨g, off, none⟩) n c) n xs ∈ l) (hk : ad = off + j) (hj : j < xs.length) (r : Repl l (OwnT e size (.slice (some ⟨g, off, none⟩) n c) n xs) (OwnT e size (.slice (some ⟨g, off, none⟩) n c) n (xs.set j (.bool b0))) l')
    (h : ∀ w', Heap W l' w' → wpList Tryz.prog ops Q rest (a.put dst undef) w') : wpList Tryz.prog ops Q (⟨dst, .store T x y, ty, pos, after, guard⟩ :: rest) a w := wpl_storeOwnC CT hw hx hy ⟨rfl, rfl⟩ H m hk hj r h
end
attribute [local go_sem high] run_min2
open Classical in
theorem rleast8_H (a : Option Addr) (n c : Nat) (F : List Flw) (q : Int) (hl : F.length = n) (hn : n ≤ 400) (hF : ∀ x ∈ F, FlwOk x) (h63 : q ≤ 9223372036854775807) (R : ∀ l' w', (∀ x ∈ l, x ∈ l') → Heap W l' w' → Rd w' a (flwL F)) (H : Heap W l w) :
    Calls Tryz.prog 40 #[.slice a n c, .int .i64 q] w (LeastPost W l 13 F q) := by
  have M := rmay8_H (W := W) a n c F hl (by omega) hF R
  have HL := Lib.hid hl
  have HR := Lib.hid R
  have HF := Lib.hid hF
  clear hl R hF
  go_enter Tryz.func40, Tryz.ntmps40
  by_cases hM : MayD F
  · by_cases hq : 0 ≤ q
    · have d1 : decide (MayD F) = true := decide_eq_true hM
      have d2 : decide (q < 0) = false := decide_eq_false (by omega)
      rw [d1] at M
      have HM := Lib.hid hM
      have hn1 : n ≤ 65536 := by omega
      have hn2 : 8 * n ≤ 281474976710656 := by omega
      clear hM d1
      go_wp2_with (first
        | go_skip
        | ((with_reducible refine AnsH.call (by assumption) H ?_); clear H; intro _ H)
        | ((with_reducible show wpList _ _ _ (_ :: _) _ _); (with_reducible apply wpl_makeC slI8 (n := n) (m := n)); (· rfl); (· rfl); (· rfl); (· rfl); (· exact Nat.le_refl _); (· exact hn1); (· exact hn2); (· exact H); (clear H; intro g _ H); (simp only [Act.put, List.setIfInBounds_toArray, List.set_cons_zero, List.set_cons_succ])))
      replace H := H.celOwn (n := n) (size := 1) (by rw [size_madeCells]) (by unfold maxLen; omega)
      obtain ⟨xs0, hx0⟩ : ∃ xs0, (madeCells (Value.cells (.int .i64 0)) (n * 1)).toList = xs0 := ⟨_, rfl⟩
      have hx0l : xs0.length = n := by rw [← hx0]; simp [size_madeCells]
      rw [hx0] at H
      clear hx0 hn1 hn2 M
      have H0 := H
      clear H
      go_loopw [8] (fun i wr => RfA W l F g n i wr) (fun i _ => n - (intOf i).toNat)
      case atStart => exact ⟨0, xs0, Nat.zero_le _, rfl, hx0l, fun j x hj => absurd hj (by omega), H0⟩
      case round => as_aux_lemma =>
        obtain ⟨k, xs, hk, rfl, hxl, hin, H⟩ := hrel.out
        clear H0 hrel hx0l
        by_cases hlt : k < n
        · have Rw := HR.out _ wr (fun x hx => List.mem_cons_of_mem _ hx) H
          obtain ⟨eb, eo, rfl, _⟩ := Rw.lt (by rw [flwL_len, HL.out]; omega)
          have hfk : F[k]? = some (F[k]'(by rw [HL.out]; exact hlt)) := List.getElem?_eq_getElem _
          generalize F[k]'(by rw [HL.out]; exact hlt) = x at *
          have hc := (rd_flow Rw hfk).2.2
          have HPUT := Lib.hid (hin.put hfk (by rw [hxl]; exact hlt))
          have hkx : k < xs.length := by omega
          clear hin hfk Rw
          go_wp2_with (first
            | go_skip
            | ((with_reducible show wpList _ _ _ (_ :: _) _ _); (with_reducible apply wpl_loadCell cell_i64); (· rfl); (· rfl); (· exact hc); (simp only [Act.put, List.setIfInBounds_toArray, List.set_cons_zero, List.set_cons_succ]))
            | ((with_reducible show wpList _ _ _ (_ :: _) _ _); (with_reducible apply wpl_storeOwnC cell_i64); (· rfl); (· rfl); (· rfl); (· exact ⟨rfl, rfl⟩); (· exact H); (· (repeat (first | (with_reducible exact List.mem_cons_self) | with_reducible apply List.mem_cons_of_mem))); (· exact (Nat.zero_add _).symm); (· exact hkx); (· (repeat (first | (with_reducible exact Repl.here) | with_reducible apply Repl.there))); (clear H; intro _ H); (simp only [Act.put, List.setIfInBounds_toArray, List.set_cons_zero, List.set_cons_succ])))
          refine ⟨⟨k + 1, _, by omega, by go_num, by rw [List.length_set]; exact hxl, HPUT.out, H⟩, ?measure1⟩
          case measure1 => simp [intOf]; omega
        · obtain rfl : k = n := by omega
          have hx2 : xs = i64L (F.map Flw.n) := LfIn.all (by rw [HL.out]; exact hin) (by rw [HL.out]; exact hxl)
          subst hx2
          clear hin hxl hlt hk
          go_wp2_with (go_skip)
          have H0 := H
          clear H
          go_loopw [9] (fun j wr => RfB W l F g k q j wr) (fun j _ => (q - intOf j).toNat)
          case atStart => exact ⟨0, _, rfl, .nil, by omega, H0⟩
          case round => as_aux_lemma =>
            obtain ⟨j, N, rfl, ht, hjq, H⟩ := hrel.out
            clear H0 hrel
            have HRT := Lib.hid ht
            have hI := (ht.inv HM.out).1
            have HI := Lib.hid hI
            have hN : N.length = k := hI.len.trans HL.out
            have HN := Lib.hid hN
            clear ht hI hN
            go_wp2_with (go_skip)
            have H0 := H.nilRow 120 3
            clear H
            go_loopw [10, 11] (fun v i wr => RfC W (LfT g k N :: l) F N k v i wr) (fun _ i _ => k - (intOf i).toNat)
            case atStart => exact ⟨0, Nat.zero_le _, rfl, by simpa [edD, edgL] using H0⟩
            case round => as_aux_lemma =>
              obtain ⟨i, hi, rfl, H⟩ := hrel.out
              clear H0 hrel
              by_cases hlt : i < k
              · have hfk : F[i]? = some (F[i]'(by rw [HL.out]; exact hlt)) := List.getElem?_eq_getElem _
                have hnk : N[i]? = some (N[i]'(by rw [HN.out]; exact hlt)) := List.getElem?_eq_getElem _
                generalize F[i]'(by rw [HL.out]; exact hlt) = x at *
                generalize N[i]'(by rw [HN.out]; exact hlt) = m at *
                obtain ⟨f, t, y⟩ := x
                obtain ⟨eb, eo, rfl, _⟩ := (HR.out _ wr (fun x hx => List.mem_cons_of_mem _ (List.mem_cons_of_mem _ hx)) H).lt (by rw [flwL_len, HL.out]; omega)
                have hf0 : ∀ L' w', (∀ x ∈ LfT g k N :: l, x ∈ L') → Heap W L' w' → w'.cell? ⟨eb, eo + i * 3, none⟩ = some (.int .u8 (f : Int)) := fun L' w' hh H' => (rd_flow (HR.out L' w' (fun x hx => hh x (List.mem_cons_of_mem _ hx)) H') hfk).1
                have hf1 : ∀ L' w', (∀ x ∈ LfT g k N :: l, x ∈ L') → Heap W L' w' → w'.cell? ⟨eb, eo + i * 3 + 1, none⟩ = some (.int .u8 (t : Int)) := fun L' w' hh H' => (rd_flow (HR.out L' w' (fun x hx => hh x (List.mem_cons_of_mem _ hx)) H') hfk).2.1
                have hf2 : ∀ L' w', (∀ x ∈ LfT g k N :: l, x ∈ L') → Heap W L' w' → w'.cell? ⟨eb, eo + i * 3 + 2, none⟩ = some (.int .i64 y) := fun L' w' hh H' => (rd_flow (HR.out L' w' (fun x hx => hh x (List.mem_cons_of_mem _ hx)) H') hfk).2.2
                have hcl := own_sub (W := W) (B := LfT g k N :: l) List.mem_cons_self (i64L_at hnk)
                have htk := edD_take (by rw [HN.out, HL.out]) hfk hnk
                have HTK := Lib.hid htk
                have hlen := edD_len (F.take i) (N.take i)
                have hlk : (F.take i).length ≤ 1000 := by simp; omega
                clear htk hfk hnk
                generalize edD (F.take i) (N.take i) = E at *
                obtain ⟨ne, hne⟩ : ∃ ne, E.length = ne := ⟨_, rfl⟩
                have HNE := Lib.hid hne
                rw [hne] at H hlen
                clear hne
                have hn1 : ne + 1 ≤ maxLen := by unfold maxLen; omega
                have hn2 : (ne + 1) * 3 ≤ 140737488355328 := by omega
                have hn3 : ne + 1 + 1 ≤ maxLen := by unfold maxLen; omega
                have hn4 : (ne + 1 + 1) * 3 ≤ 140737488355328 := by omega
                by_cases h0 : 0 < m
                · have d0 : decide (m > 0) = true := decide_eq_true (by omega)
                  by_cases h1 : m < y
                  · have d1 : decide (m < y) = true := decide_eq_true (by omega)
                    have hX : edX ⟨f, t, y⟩ m = [⟨f, t, -1⟩, ⟨t, f, 1⟩] := by unfold edX; rw [if_pos (by omega), if_pos (by simp only; omega)]; rfl
                    have HX := Lib.hid hX
                    clear hX
                    go_wp2_with (first | go_skip | ((with_reducible show wpList _ _ _ (_ :: _) _ _); (with_reducible apply wpl_loadCell cell_i64); (· rfl); (· rfl); (· with_reducible first | exact hcl _ _ (fun x hx => List.mem_cons_of_mem _ hx) H | exact hf2 _ _ (fun x hx => List.mem_cons_of_mem _ hx) H); (simp only [Act.put, List.setIfInBounds_toArray, List.set_cons_zero, List.set_cons_succ])))
                    refine wp_region_O [12, 13] [0, 1, 2, 3, 4, 5, 6, 7, 8, 9, 10, 11, 12, 13, 14] (fun l0 => ∃ pre, l0 = pre ++ (LfT g k N :: l)) H ⟨[_], rfl⟩ (by kernel_rfl) (by kernel_rfl) ?_
                    iterate 12 (apply wpO_step; (· rfl); (· rfl); (· rfl); (· exact Nat.le_of_ble_eq_true rfl); (· rintro l0 ⟨pre, rfl⟩ w0 H0; (first | go_big_quiet_skip | ((with_reducible apply wpQ_loadAt cell_party); (· rfl); (· rfl); (· with_reducible first | exact fun w2 h2 => hf0 _ w2 (fun x hx => List.mem_append_right _ hx) h2 | exact fun w2 h2 => hf1 _ w2 (fun x hx => List.mem_append_right _ hx) h2); (simp only [Act.put, List.setIfInBounds_toArray, List.set_cons_zero, List.set_cons_succ])) | go_big_quiet_step (fail)); (refine wpQuiet_nil ?_); (simp only [Array.getD_eq_getD_getElem?, List.getElem?_toArray, List.getElem?_cons_succ, List.getElem?_cons_zero, Option.getD_some]; rfl)); (simp only [Act.put, List.setIfInBounds_toArray, List.set_cons_zero, List.set_cons_succ]))
                    refine wpO_bsR rfl rfl rfl bs_redg8 rfl (fun p => ⟨[_, _], rfl⟩) ?_
                    intro pf
                    (simp only [Act.put, List.setIfInBounds_toArray, List.set_cons_zero, List.set_cons_succ])
                    refine wpO_append slR8 rfl rfl rfl rfl (.there .here) List.mem_cons_self rfl rfl (edgC_one8 _ _ _) hn1 hn2 (fun v => ⟨[_, _], rfl⟩) ?_
                    intro v2
                    (simp only [Act.put, List.setIfInBounds_toArray, List.set_cons_zero, List.set_cons_succ])
                    (apply wpO_step; (· rfl); (· rfl); (· rfl); (· exact Nat.le_of_ble_eq_true rfl); (· rintro l0 ⟨pre, rfl⟩ w0 H0; (first | go_big_quiet_skip | fail | go_big_quiet_step (fail)); (refine wpQuiet_nil ?_); (simp only [Array.getD_eq_getD_getElem?, List.getElem?_toArray, List.getElem?_cons_succ, List.getElem?_cons_zero, Option.getD_some]; rfl)); (simp only [Act.put, List.setIfInBounds_toArray, List.set_cons_zero, List.set_cons_succ]))
                    (refine wpO_nil ?_; clear H; intro _ H)
                    replace H := H.drop (.there .here)
                    go_wp2_with (go_skip)
                    refine wp_region_H H (by kernel_rfl) (by kernel_rfl) ?_
                    repeat (first | go_big_quiet_skip | ((with_reducible apply wpQ_loadAt cell_i64); (· rfl); (· rfl); (· with_reducible first | exact fun w2 h2 => hcl _ w2 (fun x hx => List.mem_cons_of_mem _ hx) h2 | exact fun w2 h2 => hf2 _ w2 (fun x hx => List.mem_cons_of_mem _ hx) h2); (simp only [Act.put, List.setIfInBounds_toArray, List.set_cons_zero, List.set_cons_succ])) | go_big_quiet_step (fail))
                    refine wpQuiet_nil ?_
                    clear H
                    intro _ H
                    go_wp2_with (go_skip)
                    refine wp_region_O [12, 13] [0, 1, 2, 3, 4, 5, 6, 7, 8, 9, 10, 11, 12, 13, 14] (fun l0 => ∃ pre, l0 = pre ++ (LfT g k N :: l)) H ⟨[_], rfl⟩ (by kernel_rfl) (by kernel_rfl) ?_
                    iterate 12 (apply wpO_step; (· rfl); (· rfl); (· rfl); (· exact Nat.le_of_ble_eq_true rfl); (· rintro l0 ⟨pre, rfl⟩ w0 H0; (first | go_big_quiet_skip | ((with_reducible apply wpQ_loadAt cell_party); (· rfl); (· rfl); (· with_reducible first | exact fun w2 h2 => hf0 _ w2 (fun x hx => List.mem_append_right _ hx) h2 | exact fun w2 h2 => hf1 _ w2 (fun x hx => List.mem_append_right _ hx) h2); (simp only [Act.put, List.setIfInBounds_toArray, List.set_cons_zero, List.set_cons_succ])) | go_big_quiet_step (fail)); (refine wpQuiet_nil ?_); (simp only [Array.getD_eq_getD_getElem?, List.getElem?_toArray, List.getElem?_cons_succ, List.getElem?_cons_zero, Option.getD_some]; rfl)); (simp only [Act.put, List.setIfInBounds_toArray, List.set_cons_zero, List.set_cons_succ]))
                    refine wpO_bsR rfl rfl rfl bs_redg8 rfl (fun p => ⟨[_, _], rfl⟩) ?_
                    intro pf
                    (simp only [Act.put, List.setIfInBounds_toArray, List.set_cons_zero, List.set_cons_succ])
                    refine wpO_append slR8 rfl rfl rfl rfl (.there .here) List.mem_cons_self rfl rfl (edgC_one8 _ _ _) hn3 hn4 (fun v => ⟨[_, _], rfl⟩) ?_
                    intro v2
                    (simp only [Act.put, List.setIfInBounds_toArray, List.set_cons_zero, List.set_cons_succ])
                    (apply wpO_step; (· rfl); (· rfl); (· rfl); (· exact Nat.le_of_ble_eq_true rfl); (· rintro l0 ⟨pre, rfl⟩ w0 H0; (first | go_big_quiet_skip | fail | go_big_quiet_step (fail)); (refine wpQuiet_nil ?_); (simp only [Array.getD_eq_getD_getElem?, List.getElem?_toArray, List.getElem?_cons_succ, List.getElem?_cons_zero, Option.getD_some]; rfl)); (simp only [Act.put, List.setIfInBounds_toArray, List.set_cons_zero, List.set_cons_succ]))
                    (refine wpO_nil ?_; clear H; intro _ H)
                    replace H := H.drop (.there .here)
                    go_wp2_with (go_skip)
                    refine ⟨⟨i + 1, by omega, by go_num, ?_⟩, ?measureB1⟩
                    case measureB1 => simp [intOf]; omega
                    rw [HTK.out, HX.out, edgL_app, List.length_append, HNE.out]
                    simpa [edgL, edgV, edg] using H
                  · have d1 : decide (m < y) = false := decide_eq_false (by omega)
                    have hX : edX ⟨f, t, y⟩ m = [⟨f, t, -1⟩] := by unfold edX; rw [if_pos (by omega), if_neg (by simp only; omega)]; rfl
                    have HX := Lib.hid hX
                    clear hX
                    go_wp2_with (first | go_skip | ((with_reducible show wpList _ _ _ (_ :: _) _ _); (with_reducible apply wpl_loadCell cell_i64); (· rfl); (· rfl); (· with_reducible first | exact hcl _ _ (fun x hx => List.mem_cons_of_mem _ hx) H | exact hf2 _ _ (fun x hx => List.mem_cons_of_mem _ hx) H); (simp only [Act.put, List.setIfInBounds_toArray, List.set_cons_zero, List.set_cons_succ])))
                    refine wp_region_O [12, 13] [0, 1, 2, 3, 4, 5, 6, 7, 8, 9, 10, 11, 12, 13, 14] (fun l0 => ∃ pre, l0 = pre ++ (LfT g k N :: l)) H ⟨[_], rfl⟩ (by kernel_rfl) (by kernel_rfl) ?_
                    iterate 12 (apply wpO_step; (· rfl); (· rfl); (· rfl); (· exact Nat.le_of_ble_eq_true rfl); (· rintro l0 ⟨pre, rfl⟩ w0 H0; (first | go_big_quiet_skip | ((with_reducible apply wpQ_loadAt cell_party); (· rfl); (· rfl); (· with_reducible first | exact fun w2 h2 => hf0 _ w2 (fun x hx => List.mem_append_right _ hx) h2 | exact fun w2 h2 => hf1 _ w2 (fun x hx => List.mem_append_right _ hx) h2); (simp only [Act.put, List.setIfInBounds_toArray, List.set_cons_zero, List.set_cons_succ])) | go_big_quiet_step (fail)); (refine wpQuiet_nil ?_); (simp only [Array.getD_eq_getD_getElem?, List.getElem?_toArray, List.getElem?_cons_succ, List.getElem?_cons_zero, Option.getD_some]; rfl)); (simp only [Act.put, List.setIfInBounds_toArray, List.set_cons_zero, List.set_cons_succ]))
                    refine wpO_bsR rfl rfl rfl bs_redg8 rfl (fun p => ⟨[_, _], rfl⟩) ?_
                    intro pf
                    (simp only [Act.put, List.setIfInBounds_toArray, List.set_cons_zero, List.set_cons_succ])
                    refine wpO_append slR8 rfl rfl rfl rfl (.there .here) List.mem_cons_self rfl rfl (edgC_one8 _ _ _) hn1 hn2 (fun v => ⟨[_, _], rfl⟩) ?_
                    intro v2
                    (simp only [Act.put, List.setIfInBounds_toArray, List.set_cons_zero, List.set_cons_succ])
                    (apply wpO_step; (· rfl); (· rfl); (· rfl); (· exact Nat.le_of_ble_eq_true rfl); (· rintro l0 ⟨pre, rfl⟩ w0 H0; (first | go_big_quiet_skip | fail | go_big_quiet_step (fail)); (refine wpQuiet_nil ?_); (simp only [Array.getD_eq_getD_getElem?, List.getElem?_toArray, List.getElem?_cons_succ, List.getElem?_cons_zero, Option.getD_some]; rfl)); (simp only [Act.put, List.setIfInBounds_toArray, List.set_cons_zero, List.set_cons_succ]))
                    (refine wpO_nil ?_; clear H; intro _ H)
                    replace H := H.drop (.there .here)
                    go_wp2_with (go_skip)
                    refine wp_region_H H (by kernel_rfl) (by kernel_rfl) ?_
                    repeat (first | go_big_quiet_skip | ((with_reducible apply wpQ_loadAt cell_i64); (· rfl); (· rfl); (· with_reducible first | exact fun w2 h2 => hcl _ w2 (fun x hx => List.mem_cons_of_mem _ hx) h2 | exact fun w2 h2 => hf2 _ w2 (fun x hx => List.mem_cons_of_mem _ hx) h2); (simp only [Act.put, List.setIfInBounds_toArray, List.set_cons_zero, List.set_cons_succ])) | go_big_quiet_step (fail))
                    refine wpQuiet_nil ?_
                    clear H
                    intro _ H
                    go_wp2_with (go_skip)
                    refine ⟨⟨i + 1, by omega, by go_num, ?_⟩, ?measureB2⟩
                    case measureB2 => simp [intOf]; omega
                    rw [HTK.out, HX.out, edgL_app, List.length_append, HNE.out]
                    simpa [edgL, edgV, edg] using H
                · have d0 : decide (m > 0) = false := decide_eq_false (by omega)
                  by_cases h1 : m < y
                  · have d1 : decide (m < y) = true := decide_eq_true (by omega)
                    have hX : edX ⟨f, t, y⟩ m = [⟨t, f, 1⟩] := by unfold edX; rw [if_neg (by omega), if_pos (by simp only; omega)]; rfl
                    have HX := Lib.hid hX
                    clear hX
                    go_wp2_with (first | go_skip | ((with_reducible show wpList _ _ _ (_ :: _) _ _); (with_reducible apply wpl_loadCell cell_i64); (· rfl); (· rfl); (· with_reducible first | exact hcl _ _ (fun x hx => List.mem_cons_of_mem _ hx) H | exact hf2 _ _ (fun x hx => List.mem_cons_of_mem _ hx) H); (simp only [Act.put, List.setIfInBounds_toArray, List.set_cons_zero, List.set_cons_succ])))
                    refine wp_region_H H (by kernel_rfl) (by kernel_rfl) ?_
                    repeat (first | go_big_quiet_skip | ((with_reducible apply wpQ_loadAt cell_i64); (· rfl); (· rfl); (· with_reducible first | exact fun w2 h2 => hcl _ w2 (fun x hx => List.mem_cons_of_mem _ hx) h2 | exact fun w2 h2 => hf2 _ w2 (fun x hx => List.mem_cons_of_mem _ hx) h2); (simp only [Act.put, List.setIfInBounds_toArray, List.set_cons_zero, List.set_cons_succ])) | go_big_quiet_step (fail))
                    refine wpQuiet_nil ?_
                    clear H
                    intro _ H
                    go_wp2_with (go_skip)
                    refine wp_region_O [12, 13] [0, 1, 2, 3, 4, 5, 6, 7, 8, 9, 10, 11, 12, 13, 14] (fun l0 => ∃ pre, l0 = pre ++ (LfT g k N :: l)) H ⟨[_], rfl⟩ (by kernel_rfl) (by kernel_rfl) ?_
                    iterate 12 (apply wpO_step; (· rfl); (· rfl); (· rfl); (· exact Nat.le_of_ble_eq_true rfl); (· rintro l0 ⟨pre, rfl⟩ w0 H0; (first | go_big_quiet_skip | ((with_reducible apply wpQ_loadAt cell_party); (· rfl); (· rfl); (· with_reducible first | exact fun w2 h2 => hf0 _ w2 (fun x hx => List.mem_append_right _ hx) h2 | exact fun w2 h2 => hf1 _ w2 (fun x hx => List.mem_append_right _ hx) h2); (simp only [Act.put, List.setIfInBounds_toArray, List.set_cons_zero, List.set_cons_succ])) | go_big_quiet_step (fail)); (refine wpQuiet_nil ?_); (simp only [Array.getD_eq_getD_getElem?, List.getElem?_toArray, List.getElem?_cons_succ, List.getElem?_cons_zero, Option.getD_some]; rfl)); (simp only [Act.put, List.setIfInBounds_toArray, List.set_cons_zero, List.set_cons_succ]))
                    refine wpO_bsR rfl rfl rfl bs_redg8 rfl (fun p => ⟨[_, _], rfl⟩) ?_
                    intro pf
                    (simp only [Act.put, List.setIfInBounds_toArray, List.set_cons_zero, List.set_cons_succ])
                    refine wpO_append slR8 rfl rfl rfl rfl (.there .here) List.mem_cons_self rfl rfl (edgC_one8 _ _ _) hn1 hn2 (fun v => ⟨[_, _], rfl⟩) ?_
                    intro v2
                    (simp only [Act.put, List.setIfInBounds_toArray, List.set_cons_zero, List.set_cons_succ])
                    (apply wpO_step; (· rfl); (· rfl); (· rfl); (· exact Nat.le_of_ble_eq_true rfl); (· rintro l0 ⟨pre, rfl⟩ w0 H0; (first | go_big_quiet_skip | fail | go_big_quiet_step (fail)); (refine wpQuiet_nil ?_); (simp only [Array.getD_eq_getD_getElem?, List.getElem?_toArray, List.getElem?_cons_succ, List.getElem?_cons_zero, Option.getD_some]; rfl)); (simp only [Act.put, List.setIfInBounds_toArray, List.set_cons_zero, List.set_cons_succ]))
                    (refine wpO_nil ?_; clear H; intro _ H)
                    replace H := H.drop (.there .here)
                    go_wp2_with (go_skip)
                    refine ⟨⟨i + 1, by omega, by go_num, ?_⟩, ?measureB3⟩
                    case measureB3 => simp [intOf]; omega
                    rw [HTK.out, HX.out, edgL_app, List.length_append, HNE.out]
                    simpa [edgL, edgV, edg] using H
                  · have d1 : decide (m < y) = false := decide_eq_false (by omega)
                    have hX : edX ⟨f, t, y⟩ m = [] := by unfold edX; rw [if_neg (by omega), if_neg (by simp only; omega)]; rfl
                    have HX := Lib.hid hX
                    clear hX
                    go_wp2_with (first | go_skip | ((with_reducible show wpList _ _ _ (_ :: _) _ _); (with_reducible apply wpl_loadCell cell_i64); (· rfl); (· rfl); (· with_reducible first | exact hcl _ _ (fun x hx => List.mem_cons_of_mem _ hx) H | exact hf2 _ _ (fun x hx => List.mem_cons_of_mem _ hx) H); (simp only [Act.put, List.setIfInBounds_toArray, List.set_cons_zero, List.set_cons_succ])))
                    refine wp_region_H H (by kernel_rfl) (by kernel_rfl) ?_
                    repeat (first | go_big_quiet_skip | ((with_reducible apply wpQ_loadAt cell_i64); (· rfl); (· rfl); (· with_reducible first | exact fun w2 h2 => hcl _ w2 (fun x hx => List.mem_cons_of_mem _ hx) h2 | exact fun w2 h2 => hf2 _ w2 (fun x hx => List.mem_cons_of_mem _ hx) h2); (simp only [Act.put, List.setIfInBounds_toArray, List.set_cons_zero, List.set_cons_succ])) | go_big_quiet_step (fail))
                    refine wpQuiet_nil ?_
                    clear H
                    intro _ H
                    go_wp2_with (go_skip)
                    refine ⟨⟨i + 1, by omega, by go_num, ?_⟩, ?measureB4⟩
                    case measureB4 => simp [intOf]; omega
                    rw [HTK.out, HX.out, edgL_app, List.length_append, HNE.out]
                    simpa [edgL] using H
              · obtain rfl : i = k := by omega
                rw [List.take_of_length_le (by rw [HL.out]; exact Nat.le_refl _), List.take_of_length_le (by rw [HN.out]; exact Nat.le_refl _)] at H
                rename_i v _ _
                obtain ⟨ea, ec, rfl, _, _⟩ := RowT.form0 (H.ok _ List.mem_cons_self)
                have C2 := refround_H (W := W) HM.out (by rw [HL.out]; exact hn) ea ec H
                obtain ⟨T, hT⟩ : ∃ T, roundOf (edD F N) = T := ⟨_, rfl⟩
                have HT := Lib.hid hT
                rw [hT] at C2
                obtain ⟨tn, htn⟩ : ∃ tn, T.length = tn := ⟨_, rfl⟩
                have HTN := Lib.hid htn
                rw [htn] at C2
                clear hT htn
                by_cases hr : tn = 0
                · have e1 : ((tn : Int) == 0) = true := by simp; omega
                  go_wp2_with (first
                    | go_skip
                    | (refine C2.mono ?_; clear C2 H; rintro _ _ ⟨ta, tc, rfl, H⟩))
                  subst hr
                  have H0 := H.nilRow 53 3
                  clear H
                  go_loopw [22, 23] (fun v i0 wr => LsC W (OwnT 30 1 (.slice ta 0 tc) 0 (T.map pv) :: LfT g i N :: l) F N i v i0 wr) (fun _ i0 _ => i - (intOf i0).toNat)
                  case atStart => exact ⟨0, Nat.zero_le _, rfl, by simpa [leftL, flwL] using H0⟩
                  case round => as_aux_lemma =>
                    obtain ⟨o, ho, rfl, H⟩ := hrel.out
                    clear H0 hrel
                    by_cases hlt2 : o < i
                    · have hfk : F[o]? = some (F[o]'(by rw [HL.out]; exact hlt2)) := List.getElem?_eq_getElem _
                      have hnk : N[o]? = some (N[o]'(by rw [HN.out]; exact hlt2)) := List.getElem?_eq_getElem _
                      generalize F[o]'(by rw [HL.out]; exact hlt2) = x at *
                      generalize N[o]'(by rw [HN.out]; exact hlt2) = m at *
                      obtain ⟨f, t, y⟩ := x
                      have htk := leftL_take (by rw [HN.out, HL.out]) hfk hnk
                      have HTK := Lib.hid htk
                      have hlen := leftL_len (F.take o) (N.take o)
                      have hlk : (F.take o).length ≤ 1000 := by simp; omega
                      generalize hB : OwnT 30 1 (.slice ta 0 tc) 0 (T.map pv) :: LfT g i N :: l = B at *
                      have hBl : ∀ x ∈ l, x ∈ B := fun x hx => by rw [← hB]; exact List.mem_cons_of_mem _ (List.mem_cons_of_mem _ hx)
                      have hcl := own_sub (W := W) (B := B) (e := 2) (n := i) (c := i) (g := g) (xs := i64L N) (by rw [← hB]; exact List.mem_cons_of_mem _ List.mem_cons_self) (i64L_at hnk)
                      obtain ⟨eb, eo, rfl, _⟩ := (HR.out _ wr (fun x hx => List.mem_cons_of_mem _ (hBl x hx)) H).lt (by rw [flwL_len, HL.out]; omega)
                      have hf0 : ∀ L' w', (∀ x ∈ B, x ∈ L') → Heap W L' w' → w'.cell? ⟨eb, eo + o * 3, none⟩ = some (.int .u8 (f : Int)) := fun L' w' hh H' => (rd_flow (HR.out L' w' (fun x hx => hh x (hBl x hx)) H') hfk).1
                      have hf1 : ∀ L' w', (∀ x ∈ B, x ∈ L') → Heap W L' w' → w'.cell? ⟨eb, eo + o * 3 + 1, none⟩ = some (.int .u8 (t : Int)) := fun L' w' hh H' => (rd_flow (HR.out L' w' (fun x hx => hh x (hBl x hx)) H') hfk).2.1
                      clear htk hfk hnk hB hBl
                      generalize leftL (F.take o) (N.take o) = E at *
                      obtain ⟨ne, hne⟩ : ∃ ne, E.length = ne := ⟨_, rfl⟩
                      have HNE := Lib.hid hne
                      rw [hne] at H hlen
                      clear hne
                      have hn1 : ne + 1 ≤ maxLen := by unfold maxLen; omega
                      have hn2 : (ne + 1) * 16 ≤ 140737488355328 := by omega
                      by_cases h0 : 0 < m
                      · have d0 : decide (m > 0) = true := decide_eq_true h0
                        have hX : (if 0 < m then [(⟨f, t, m⟩ : Flw)] else []) = [⟨f, t, m⟩] := if_pos h0
                        have HX := Lib.hid hX
                        clear hX h0
                        go_wp2_with (first | go_skip | ((with_reducible show wpList _ _ _ (_ :: _) _ _); (with_reducible apply wpl_loadCell cell_i64); (· rfl); (· rfl); (· with_reducible exact hcl _ _ (fun x hx => List.mem_cons_of_mem _ hx) H); (simp only [Act.put, List.setIfInBounds_toArray, List.set_cons_zero, List.set_cons_succ])))
                        refine wp_region_O [16, 17] [0, 1, 2, 3, 4, 5, 6, 7, 8, 9, 10, 11, 12, 13, 14, 15, 16, 17, 18] (fun l0 => ∃ pre, l0 = pre ++ B) H ⟨[_], rfl⟩ (by kernel_rfl) (by kernel_rfl) ?_
                        iterate 16 (apply wpO_step; (· rfl); (· rfl); (· rfl); (· exact Nat.le_of_ble_eq_true rfl); (· rintro l0 ⟨pre, rfl⟩ w0 H0; (first | go_big_quiet_skip | ((with_reducible first | apply wpQ_loadAt cell_party | apply wpQ_loadAt cell_i64); (· rfl); (· rfl); (· with_reducible first | exact fun w2 h2 => hf0 _ w2 (fun x hx => List.mem_append_right _ hx) h2 | exact fun w2 h2 => hf1 _ w2 (fun x hx => List.mem_append_right _ hx) h2 | exact fun w2 h2 => hcl _ w2 (fun x hx => List.mem_append_right _ hx) h2); (simp only [Act.put, List.setIfInBounds_toArray, List.set_cons_zero, List.set_cons_succ])) | go_big_quiet_step (fail)); (refine wpQuiet_nil ?_); (simp only [Array.getD_eq_getD_getElem?, List.getElem?_toArray, List.getElem?_cons_succ, List.getElem?_cons_zero, Option.getD_some]; rfl)); (simp only [Act.put, List.setIfInBounds_toArray, List.set_cons_zero, List.set_cons_succ]))
                        refine wpO_bsR rfl rfl rfl bs_flow rfl (fun p => ⟨[_, _], rfl⟩) ?_
                        intro pf
                        (simp only [Act.put, List.setIfInBounds_toArray, List.set_cons_zero, List.set_cons_succ])
                        refine wpO_append slF rfl rfl rfl rfl (.there .here) List.mem_cons_self rfl rfl (flowC_one _ _ _) hn1 hn2 (fun v => ⟨[_, _], rfl⟩) ?_
                        intro v2
                        (simp only [Act.put, List.setIfInBounds_toArray, List.set_cons_zero, List.set_cons_succ])
                        (apply wpO_step; (· rfl); (· rfl); (· rfl); (· exact Nat.le_of_ble_eq_true rfl); (· rintro l0 ⟨pre, rfl⟩ w0 H0; (first | go_big_quiet_skip | fail | go_big_quiet_step (fail)); (refine wpQuiet_nil ?_); (simp only [Array.getD_eq_getD_getElem?, List.getElem?_toArray, List.getElem?_cons_succ, List.getElem?_cons_zero, Option.getD_some]; rfl)); (simp only [Act.put, List.setIfInBounds_toArray, List.set_cons_zero, List.set_cons_succ]))
                        (refine wpO_nil ?_; clear H; intro _ H)
                        replace H := H.drop (.there .here)
                        go_wp2_with (go_skip)
                        refine ⟨⟨o + 1, by omega, by go_num, ?_⟩, ?measureC1⟩
                        case measureC1 => simp [intOf]; omega
                        rw [HTK.out, HX.out, flwL_app, List.length_append, HNE.out]
                        exact H
                      · have d0 : decide (m > 0) = false := decide_eq_false h0
                        have hX : (if 0 < m then [(⟨f, t, m⟩ : Flw)] else []) = [] := if_neg h0
                        have HX := Lib.hid hX
                        clear hX h0
                        go_wp2_with (first | go_skip | ((with_reducible show wpList _ _ _ (_ :: _) _ _); (with_reducible apply wpl_loadCell cell_i64); (· rfl); (· rfl); (· with_reducible exact hcl _ _ (fun x hx => List.mem_cons_of_mem _ hx) H); (simp only [Act.put, List.setIfInBounds_toArray, List.set_cons_zero, List.set_cons_succ])))
                        refine ⟨⟨o + 1, by omega, by go_num, ?_⟩, ?measureC2⟩
                        case measureC2 => simp [intOf]; omega
                        rw [HTK.out, HX.out, List.append_nil, HNE.out]
                        exact H
                    · obtain rfl : i = o := by omega
                      rw [List.take_of_length_le (by rw [HL.out]; exact Nat.le_refl _), List.take_of_length_le (by rw [HN.out]; exact Nat.le_refl _)] at H
                      go_wp2_with (go_skip)
                      go_ret3
                      refine ⟨_, leftL F N, j, 0, rfl, .inr ⟨HM.out, hq, j, N, HRT.out, hjq, .inl ⟨?_, rfl, rfl, rfl⟩⟩, ?_⟩
                      · rw [HT.out]; exact List.length_eq_zero_iff.1 HTN.out
                      · exact (H.sub (.cons_cons _ (.cons _ (.cons _ (.refl _))))).slide
                · have e1 : ((tn : Int) == 0) = false := by simp; omega
                  by_cases hq2 : (j : Int) = q
                  · have e2 : ((j : Int) == q) = true := by simp; omega
                    go_wp2_with (first
                      | go_skip
                      | (refine C2.mono ?_; clear C2 H; rintro _ _ ⟨ta, tc, rfl, H⟩))
                    go_ret3
                    refine ⟨_, [], 0, 13, rfl, .inr ⟨HM.out, hq, j, N, HRT.out, hjq, .inr ⟨?_, hq2, rfl, rfl, rfl⟩⟩, ?_⟩
                    · rw [HT.out]; intro h; apply hr; rw [← HTN.out, h]; rfl
                    · exact Heap.nilOwn _ _ (H.sub (.cons _ (.cons _ (.refl _))))
                  · have e2 : ((j : Int) == q) = false := by simp; omega
                    have hN0 : roundOf (edD F N) ≠ [] := fun h => hr (by rw [← HTN.out, ← HT.out, h]; rfl)
                    obtain ⟨S, hS, s2, s3, _⟩ := round_go HM.out HI.out hN0
                    obtain ⟨tf, Cf, hR⟩ := edD_rnd HM.out hN0
                    have HN0 := Lib.hid hN0
                    have hr1 := hR.pos
                    have hr2 := hR.max
                    have HS0 := Lib.hid hS
                    rw [HT.out] at hr1 hr2 hS
                    rw [HTN.out] at hr1 hr2
                    have HS := Lib.hid hS
                    have H2 := Lib.hid s2
                    have H3 := Lib.hid s3
                    have HSL := Lib.hid (hS.1.trans HTN.out)
                    clear hS s2 s3 hR hN0 hlt hi hr
                    have hq3 : (j : Int) + 1 ≤ q := by omega
                    go_wp2_with (first
                      | go_skip
                      | (refine C2.mono ?_; clear C2 H; rintro _ _ ⟨ta, tc, rfl, H⟩)
                      | ((with_reducible show wpList _ _ _ (_ :: _) _ _); (with_reducible apply wpl_makeC slN8 (n := tn) (m := tn)); (· rfl); (· rfl); (· rfl); (· rfl); (· exact Nat.le_refl _); (· omega); (· omega); (· exact H); (clear H; intro ga _ H); (simp only [Act.put, List.setIfInBounds_toArray, List.set_cons_zero, List.set_cons_succ]))
                      | ((with_reducible show wpList _ _ _ (_ :: _) _ _); (with_reducible apply wpl_makeC slB8 (n := tn) (m := tn)); (· rfl); (· rfl); (· rfl); (· rfl); (· exact Nat.le_refl _); (· omega); (· omega); (· exact H); (clear H; intro gb _ H); (simp only [Act.put, List.setIfInBounds_toArray, List.set_cons_zero, List.set_cons_succ])))
                    replace H := H.celOwn (n := tn) (size := 1) (by rw [size_madeCells]) (by unfold maxLen; omega)
                    replace H := (H.perm (.swap _ _ _)).celOwn (n := tn) (size := 1) (by rw [size_madeCells]) (by unfold maxLen; omega)
                    rw [made_zero _ rfl] at H
                    rw [made_zero _ rfl] at H
                    obtain ⟨tb, to, rfl, _⟩ := (H.ownRd (List.mem_cons_of_mem _ (List.mem_cons_of_mem _ List.mem_cons_self))).lt (by rw [List.length_map, HTN.out]; omega)
                    have H0 := H
                    clear H
                    go_loopw [15, 16] (fun m k wr => RfD W (OwnT 30 1 (.slice (some ⟨tb, to, none⟩) tn tc) tn (T.map pv) :: LfT g i N :: l) F N S ga gb tn m k wr) (fun _ k _ => tn - (intOf k).toNat)
                    case atStart => exact ⟨0, _, _, Nat.zero_le _, rfl, rfl, by simp, by simp, ⟨fun j i b h => absurd h (by omega), fun j _ h => by rw [List.getElem?_replicate, if_pos (by rw [← HSL.out]; exact h)]⟩, H0⟩
                    case round => as_aux_lemma =>
                      obtain ⟨k, xa, xb, hk, rfl, rfl, hxa, hxb, hat, H⟩ := hrel.out
                      clear H0 hrel
                      have HAT := Lib.hid hat
                      clear hat
                      by_cases hlt : k < tn
                      · have hkk1 : (k + 1) % tn < tn := Nat.mod_lt _ (by omega)
                        obtain ⟨i0, b, s1, s2⟩ := HS.out.2 k (by rw [HTN.out]; exact hlt)
                        rw [HTN.out] at s2
                        obtain ⟨a1, hta⟩ : ∃ x, T.getD k 0 = x := ⟨_, rfl⟩
                        obtain ⟨b1, htb⟩ : ∃ x, T.getD ((k + 1) % tn) 0 = x := ⟨_, rfl⟩
                        rw [hta, htb] at s2
                        have hTm : (T.map pv).length = tn := by rw [List.length_map, HTN.out]
                        generalize hLL : OwnT 30 1 (.slice (some ⟨tb, to, none⟩) tn tc) tn (T.map pv) :: LfT g i N :: l = LL at *
                        have hLP : OwnT 30 1 (.slice (some ⟨tb, to, none⟩) tn tc) tn (T.map pv) ∈ LL := by rw [← hLL]; exact List.mem_cons_self
                        have hLF : LfT g i N ∈ LL := by rw [← hLL]; exact List.mem_cons_of_mem _ List.mem_cons_self
                        have hLl : ∀ x ∈ l, x ∈ LL := fun x hx => by rw [← hLL]; exact List.mem_cons_of_mem _ (List.mem_cons_of_mem _ hx)
                        have hc1 : ∀ L' w', (∀ x ∈ LL, x ∈ L') → Heap W L' w' → w'.cell? ⟨tb, to + k, none⟩ = some (.int .u8 (a1 : Int)) := fun L' w' hh H' => by
                          rw [(H'.ownRd (hh _ hLP)).get (i := k) (by omega)]
                          subst hta
                          simp [pv, List.getD_eq_getElem?_getD, HTN.out, hlt]
                        obtain ⟨kk, hkk⟩ : ∃ kk, (k + 1) % tn = kk := ⟨_, rfl⟩
                        have hmod : ((k : Int) + 1) % (tn : Int) = (kk : Int) := by rw [← hkk, Int.natCast_emod]; rfl
                        rw [hkk] at hkk1 htb
                        have hc2 : ∀ L' w', (∀ x ∈ LL, x ∈ L') → Heap W L' w' → w'.cell? ⟨tb, to + kk, none⟩ = some (.int .u8 (b1 : Int)) := fun L' w' hh H' => by
                          rw [(H'.ownRd (hh _ hLP)).get (i := kk) (by omega)]
                          subst htb
                          simp [pv, List.getD_eq_getElem?_getD, HTN.out, hkk1]
                        have hi0 := (H2.out _ (List.mem_of_getElem? s1)).1
                        simp only at hi0
                        rw [HL.out] at hi0
                        have hfi : F[i0]? = some (F[i0]'(by rw [HL.out]; exact hi0)) := List.getElem?_eq_getElem _
                        have hni : N[i0]? = some (N[i0]'(by rw [HN.out]; exact hi0)) := List.getElem?_eq_getElem _
                        generalize F[i0]'(by rw [HL.out]; exact hi0) = x at *
                        generalize N[i0]'(by rw [HN.out]; exact hi0) = m at *
                        obtain ⟨eb, eo, rfl, _⟩ := (HR.out _ wr (fun x hx => List.mem_cons_of_mem _ (List.mem_cons_of_mem _ (hLl x hx))) H).lt (by rw [flwL_len, HL.out]; omega)
                        have hbx := HI.out.bnd i0 x m hfi hni
                        have hxo := (HM.out.okX hfi).2.2.2.2.2.2
                        have hmost := mostS_at hfi hni b
                        have HMO := Lib.hid hmost
                        have hg2 : ∀ L' w', (∀ x ∈ LL, x ∈ L') → Heap W L' w' → w'.cell? ⟨eb, eo + i0 * 3 + 2, none⟩ = some (.int .i64 x.n) := fun L' w' hh H' => (rd_flow (HR.out L' w' (fun x hx => hh x (hLl x hx)) H') hfi).2.2
                        have hgl := own_sub (W := W) hLF (i64L_at hni)
                        have HSI := Lib.hid (And.intro s1 s2)
                        have HLL := Lib.hid (And.intro hLF hLl)
                        have HEX := Lib.hid hLL
                        have hka : k < xa.length := by omega
                        have hkb : k < xb.length := by omega
                        clear hkk hta htb hfi hni s1 s2 hLL hLP hLF hLl hmost
                        go_wp2_with (first
                          | go_skip
                          | ((with_reducible show wpList _ _ _ (_ :: _) _ _); (with_reducible apply wpl_loadCell cell_party); (· rfl); (· rfl); (· with_reducible first | exact hc1 _ _ (fun x hx => List.mem_cons_of_mem _ (List.mem_cons_of_mem _ hx)) H | exact hc2 _ _ (fun x hx => List.mem_cons_of_mem _ (List.mem_cons_of_mem _ hx)) H); (simp only [Act.put, List.setIfInBounds_toArray, List.set_cons_zero, List.set_cons_succ]))
                          | ((with_reducible show wpList _ _ _ (_ :: _) _ _); (with_reducible apply wpl_storeOwnI cell_int8); (· rfl); (· rfl); (· rfl); (· exact H); (· (repeat (first | (with_reducible exact List.mem_cons_self) | with_reducible apply List.mem_cons_of_mem))); (· exact (Nat.zero_add _).symm); (· exact hka); (· (repeat (first | (with_reducible exact Repl.here) | with_reducible apply Repl.there))); (clear H; intro _ H); (simp only [Act.put, List.setIfInBounds_toArray, List.set_cons_zero, List.set_cons_succ])))
                        have H0 := H
                        clear H hc1 hc2 hmod
                        go_loopw [19] (fun o wr => RfE W (OwnT 4 1 (.slice (some ⟨gb, 0, none⟩) tn tn) tn xb :: LL) (fwdAt F N a1 b1) xa ga tn i k o wr) (fun o _ => i - (intOf o).toNat)
                        case atStart => exact ⟨0, -1, Nat.zero_le _, rfl, .start _, H0⟩
                        case round => as_aux_lemma =>
                          obtain ⟨o, z, ho, rfl, hz, H⟩ := hrel.out
                          clear H0 hrel
                          have HZ := Lib.hid hz
                          clear hz
                          have hka : k < (xa.set k (.int .i64 z)).length := by rw [List.length_set]; omega
                          by_cases hlt2 : o < i
                          · have hfk : F[o]? = some (F[o]'(by rw [HL.out]; exact hlt2)) := List.getElem?_eq_getElem _
                            have hnk : N[o]? = some (N[o]'(by rw [HN.out]; exact hlt2)) := List.getElem?_eq_getElem _
                            generalize F[o]'(by rw [HL.out]; exact hlt2) = y at *
                            generalize N[o]'(by rw [HN.out]; exact hlt2) = mo at *
                            obtain ⟨f, t, yn⟩ := y
                            have HFW := Lib.hid (show fwdAt F N a1 b1 o ↔ (f = a1 ∧ t = b1 ∧ 0 < mo) from ⟨fun ⟨y, j, h1, h2, h3⟩ => by rw [hfk] at h1; rw [hnk] at h2; cases h1; cases h2; exact h3, fun h => ⟨_, mo, hfk, hnk, h⟩⟩)
                            have hf0 : ∀ L' w', (∀ x ∈ LL, x ∈ L') → Heap W L' w' → w'.cell? ⟨eb, eo + o * 3, none⟩ = some (.int .u8 (f : Int)) := fun L' w' hh H' => (rd_flow (HR.out L' w' (fun x hx => hh x (HLL.out.2 x hx)) H') hfk).1
                            have hf1 : ∀ L' w', (∀ x ∈ LL, x ∈ L') → Heap W L' w' → w'.cell? ⟨eb, eo + o * 3 + 1, none⟩ = some (.int .u8 (t : Int)) := fun L' w' hh H' => (rd_flow (HR.out L' w' (fun x hx => hh x (HLL.out.2 x hx)) H') hfk).2.1
                            have hcl := own_sub (W := W) HLL.out.1 (i64L_at hnk)
                            clear hfk hnk
                            by_cases u1 : f = a1
                            · have e1 : ((f : Int) == (a1 : Int)) = true := by simp; omega
                              by_cases u2 : t = b1
                              · have e2 : ((t : Int) == (b1 : Int)) = true := by simp; omega
                                by_cases u3 : 0 < mo
                                · have e3 : decide (mo > 0) = true := decide_eq_true u3
                                  have HNF := Lib.hid (show fwdAt F N a1 b1 o from HFW.out.2 ⟨u1, u2, u3⟩)
                                  clear u1 u2 u3
                                  go_wp2_with (first | go_skip | ((with_reducible show wpList _ _ _ (_ :: _) _ _); (with_reducible first | apply wpl_loadCell cell_party | apply wpl_loadCell cell_i64); (· rfl); (· rfl); (· with_reducible first | exact hf0 _ _ (fun x hx => List.mem_cons_of_mem _ (List.mem_cons_of_mem _ hx)) H | exact hf1 _ _ (fun x hx => List.mem_cons_of_mem _ (List.mem_cons_of_mem _ hx)) H | exact hcl _ _ (fun x hx => List.mem_cons_of_mem _ (List.mem_cons_of_mem _ hx)) H); (simp only [Act.put, List.setIfInBounds_toArray, List.set_cons_zero, List.set_cons_succ])) | ((with_reducible show wpList _ _ _ (_ :: _) _ _); (with_reducible apply wpl_storeOwnI cell_int8); (· rfl); (· rfl); (· rfl); (· exact H); (· (repeat (first | (with_reducible exact List.mem_cons_self) | with_reducible apply List.mem_cons_of_mem))); (· exact (Nat.zero_add _).symm); (· exact hka); (· (repeat (first | (with_reducible exact Repl.here) | with_reducible apply Repl.there))); (clear H; intro _ H); (simp only [Act.put, List.setIfInBounds_toArray, List.set_cons_zero, List.set_cons_succ])))
                                  rw [List.set_set] at H
                                  refine ⟨⟨o + 1, (o : Int), by omega, by go_num, .yes HNF.out, H⟩, ?measureE1⟩
                                  case measureE1 => simp [intOf]; omega
                                · have e3 : decide (mo > 0) = false := decide_eq_false u3
                                  have HNF := Lib.hid (show ¬ fwdAt F N a1 b1 o from fun h => u3 (HFW.out.1 h).2.2)
                                  clear u1 u2 u3
                                  go_wp2_with (first | go_skip | ((with_reducible show wpList _ _ _ (_ :: _) _ _); (with_reducible first | apply wpl_loadCell cell_party | apply wpl_loadCell cell_i64); (· rfl); (· rfl); (· with_reducible first | exact hf0 _ _ (fun x hx => List.mem_cons_of_mem _ (List.mem_cons_of_mem _ hx)) H | exact hf1 _ _ (fun x hx => List.mem_cons_of_mem _ (List.mem_cons_of_mem _ hx)) H | exact hcl _ _ (fun x hx => List.mem_cons_of_mem _ (List.mem_cons_of_mem _ hx)) H); (simp only [Act.put, List.setIfInBounds_toArray, List.set_cons_zero, List.set_cons_succ])) | ((with_reducible show wpList _ _ _ (_ :: _) _ _); (with_reducible apply wpl_storeOwnI cell_int8); (· rfl); (· rfl); (· rfl); (· exact H); (· (repeat (first | (with_reducible exact List.mem_cons_self) | with_reducible apply List.mem_cons_of_mem))); (· exact (Nat.zero_add _).symm); (· exact hka); (· (repeat (first | (with_reducible exact Repl.here) | with_reducible apply Repl.there))); (clear H; intro _ H); (simp only [Act.put, List.setIfInBounds_toArray, List.set_cons_zero, List.set_cons_succ])))
                                  refine ⟨⟨o + 1, z, by omega, by go_num, HZ.out.no HNF.out, H⟩, ?measureE2⟩
                                  case measureE2 => simp [intOf]; omega
                              · have e2 : ((t : Int) == (b1 : Int)) = false := by simp; omega
                                have HNF := Lib.hid (show ¬ fwdAt F N a1 b1 o from fun h => u2 (HFW.out.1 h).2.1)
                                clear u1 u2
                                go_wp2_with (first | go_skip | ((with_reducible show wpList _ _ _ (_ :: _) _ _); (with_reducible first | apply wpl_loadCell cell_party | apply wpl_loadCell cell_i64); (· rfl); (· rfl); (· with_reducible first | exact hf0 _ _ (fun x hx => List.mem_cons_of_mem _ (List.mem_cons_of_mem _ hx)) H | exact hf1 _ _ (fun x hx => List.mem_cons_of_mem _ (List.mem_cons_of_mem _ hx)) H | exact hcl _ _ (fun x hx => List.mem_cons_of_mem _ (List.mem_cons_of_mem _ hx)) H); (simp only [Act.put, List.setIfInBounds_toArray, List.set_cons_zero, List.set_cons_succ])) | ((with_reducible show wpList _ _ _ (_ :: _) _ _); (with_reducible apply wpl_storeOwnI cell_int8); (· rfl); (· rfl); (· rfl); (· exact H); (· (repeat (first | (with_reducible exact List.mem_cons_self) | with_reducible apply List.mem_cons_of_mem))); (· exact (Nat.zero_add _).symm); (· exact hka); (· (repeat (first | (with_reducible exact Repl.here) | with_reducible apply Repl.there))); (clear H; intro _ H); (simp only [Act.put, List.setIfInBounds_toArray, List.set_cons_zero, List.set_cons_succ])))
                                refine ⟨⟨o + 1, z, by omega, by go_num, HZ.out.no HNF.out, H⟩, ?measureE3⟩
                                case measureE3 => simp [intOf]; omega
                            · have e1 : ((f : Int) == (a1 : Int)) = false := by simp; omega
                              have HNF := Lib.hid (show ¬ fwdAt F N a1 b1 o from fun h => u1 (HFW.out.1 h).1)
                              clear u1
                              go_wp2_with (first | go_skip | ((with_reducible show wpList _ _ _ (_ :: _) _ _); (with_reducible first | apply wpl_loadCell cell_party | apply wpl_loadCell cell_i64); (· rfl); (· rfl); (· with_reducible first | exact hf0 _ _ (fun x hx => List.mem_cons_of_mem _ (List.mem_cons_of_mem _ hx)) H | exact hf1 _ _ (fun x hx => List.mem_cons_of_mem _ (List.mem_cons_of_mem _ hx)) H | exact hcl _ _ (fun x hx => List.mem_cons_of_mem _ (List.mem_cons_of_mem _ hx)) H); (simp only [Act.put, List.setIfInBounds_toArray, List.set_cons_zero, List.set_cons_succ])) | ((with_reducible show wpList _ _ _ (_ :: _) _ _); (with_reducible apply wpl_storeOwnI cell_int8); (· rfl); (· rfl); (· rfl); (· exact H); (· (repeat (first | (with_reducible exact List.mem_cons_self) | with_reducible apply List.mem_cons_of_mem))); (· exact (Nat.zero_add _).symm); (· exact hka); (· (repeat (first | (with_reducible exact Repl.here) | with_reducible apply Repl.there))); (clear H; intro _ H); (simp only [Act.put, List.setIfInBounds_toArray, List.set_cons_zero, List.set_cons_succ])))
                              refine ⟨⟨o + 1, z, by omega, by go_num, HZ.out.no HNF.out, H⟩, ?measureE4⟩
                              case measureE4 => simp [intOf]; omega
                          · obtain rfl : i = o := by omega
                            have HZE := Lib.hid (FdC.fwd HM.out HL.out HSI.out.2 HZ.out)
                            have hzk : (xa.set k (.int .i64 z))[k]? = some (.int .i64 z) := List.getElem?_set_self (by rw [List.length_set] at hka; exact hka)
                            have hlk : k < xa.length := by rw [List.length_set] at hka; exact hka
                            rcases HZE.out with ⟨rfl, rfl⟩ | ⟨rfl, rfl⟩
                            · have hza : ∀ w', Heap W (OwnT 3 1 (.slice (some ⟨ga, 0, none⟩) tn tn) tn (xa.set k (.int .i64 (i0 : Int))) :: OwnT 4 1 (.slice (some ⟨gb, 0, none⟩) tn tn) tn xb :: LL) w' → w'.cell? ⟨ga, k, none⟩ = some (.int .i64 (i0 : Int)) := own_at List.mem_cons_self hzk
                              go_wp2_with (first | go_skip | ((with_reducible show wpList _ _ _ (_ :: _) _ _); (with_reducible first | apply wpl_loadCell cell_int8 | apply wpl_loadCell cell_i64); (· rfl); (· rfl); (· with_reducible first | exact hza _ H | exact hgl _ _ (fun x hx => List.mem_cons_of_mem _ (List.mem_cons_of_mem _ hx)) H); (simp only [Act.put, List.setIfInBounds_toArray, List.set_cons_zero, List.set_cons_succ])))
                              refine ⟨⟨k + 1, _, xb, by omega, by go_num, ?_, by rw [List.length_set]; exact hxa, hxb, HAT.out.put0 HSI.out.1 hlk, H⟩, ?measureF1⟩
                              case measureF1 => simp [intOf]; omega
                              rw [List.take_add_one, HSI.out.1, Option.toList_some, minS_snoc, HMO.out]
                              rfl
                            · have hza : ∀ w', Heap W (OwnT 3 1 (.slice (some ⟨ga, 0, none⟩) tn tn) tn (xa.set k (.int .i64 (-1))) :: OwnT 4 1 (.slice (some ⟨gb, 0, none⟩) tn tn) tn xb :: LL) w' → w'.cell? ⟨ga, k, none⟩ = some (.int .i64 (-1)) := own_at List.mem_cons_self hzk
                              go_wp2_with (first | go_skip | ((with_reducible show wpList _ _ _ (_ :: _) _ _); (with_reducible first | apply wpl_loadCell cell_int8 | apply wpl_loadCell cell_i64); (· rfl); (· rfl); (· with_reducible first | exact hza _ H | exact hgl _ _ (fun x hx => List.mem_cons_of_mem _ (List.mem_cons_of_mem _ hx)) H); (simp only [Act.put, List.setIfInBounds_toArray, List.set_cons_zero, List.set_cons_succ])) | ((with_reducible show wpList _ _ _ (_ :: _) _ _); (with_reducible apply wpl_storeOwnB cell_bool8); (· rfl); (· rfl); (· rfl); (· exact H); (· (repeat (first | (with_reducible exact List.mem_cons_self) | with_reducible apply List.mem_cons_of_mem))); (· exact (Nat.zero_add _).symm); (· exact hkb); (· (repeat (first | (with_reducible exact Repl.here) | with_reducible apply Repl.there))); (clear H; intro _ H); (simp only [Act.put, List.setIfInBounds_toArray, List.set_cons_zero, List.set_cons_succ])))
                              have H0 := H
                              clear H hza
                              go_loopw [20] (fun r wr => RfE W (OwnT 4 1 (.slice (some ⟨gb, 0, none⟩) tn tn) tn (xb.set k (.bool true)) :: LL) (revAt F a1 b1) xa ga tn i k r wr) (fun r _ => i - (intOf r).toNat)
                              case atStart => exact ⟨0, -1, Nat.zero_le _, rfl, .start _, H0⟩
                              case round => as_aux_lemma =>
                                obtain ⟨o, z, ho, rfl, hz, H⟩ := hrel.out
                                clear H0 hrel
                                have HZ := Lib.hid hz
                                clear hz
                                have hka : k < (xa.set k (.int .i64 z)).length := by rw [List.length_set]; exact hlk
                                by_cases hlt3 : o < i
                                · have hfk : F[o]? = some (F[o]'(by rw [HL.out]; exact hlt3)) := List.getElem?_eq_getElem _
                                  generalize F[o]'(by rw [HL.out]; exact hlt3) = y at *
                                  obtain ⟨f, t, yn⟩ := y
                                  have HFW := Lib.hid (show revAt F a1 b1 o ↔ (f = b1 ∧ t = a1) from ⟨fun ⟨y, h1, h3⟩ => by rw [hfk] at h1; cases h1; exact h3, fun h => ⟨_, hfk, h⟩⟩)
                                  have hf0 : ∀ L' w', (∀ x ∈ LL, x ∈ L') → Heap W L' w' → w'.cell? ⟨eb, eo + o * 3, none⟩ = some (.int .u8 (f : Int)) := fun L' w' hh H' => (rd_flow (HR.out L' w' (fun x hx => hh x (HLL.out.2 x hx)) H') hfk).1
                                  have hf1 : ∀ L' w', (∀ x ∈ LL, x ∈ L') → Heap W L' w' → w'.cell? ⟨eb, eo + o * 3 + 1, none⟩ = some (.int .u8 (t : Int)) := fun L' w' hh H' => (rd_flow (HR.out L' w' (fun x hx => hh x (HLL.out.2 x hx)) H') hfk).2.1
                                  clear hfk
                                  by_cases u1 : f = b1
                                  · have e1 : ((f : Int) == (b1 : Int)) = true := by simp; omega
                                    by_cases u2 : t = a1
                                    · have e2 : ((t : Int) == (a1 : Int)) = true := by simp; omega
                                      have HNF := Lib.hid (show revAt F a1 b1 o from HFW.out.2 ⟨u1, u2⟩)
                                      clear u1 u2
                                      go_wp2_with (first | go_skip | ((with_reducible show wpList _ _ _ (_ :: _) _ _); (with_reducible apply wpl_loadCell cell_party); (· rfl); (· rfl); (· with_reducible first | exact hf0 _ _ (fun x hx => List.mem_cons_of_mem _ (List.mem_cons_of_mem _ hx)) H | exact hf1 _ _ (fun x hx => List.mem_cons_of_mem _ (List.mem_cons_of_mem _ hx)) H); (simp only [Act.put, List.setIfInBounds_toArray, List.set_cons_zero, List.set_cons_succ])) | ((with_reducible show wpList _ _ _ (_ :: _) _ _); (with_reducible apply wpl_storeOwnI cell_int8); (· rfl); (· rfl); (· rfl); (· exact H); (· (repeat (first | (with_reducible exact List.mem_cons_self) | with_reducible apply List.mem_cons_of_mem))); (· exact (Nat.zero_add _).symm); (· exact hka); (· (repeat (first | (with_reducible exact Repl.here) | with_reducible apply Repl.there))); (clear H; intro _ H); (simp only [Act.put, List.setIfInBounds_toArray, List.set_cons_zero, List.set_cons_succ])))
                                      rw [List.set_set] at H
                                      refine ⟨⟨o + 1, (o : Int), by omega, by go_num, .yes HNF.out, H⟩, ?measureG1⟩
                                      case measureG1 => simp [intOf]; omega
                                    · have e2 : ((t : Int) == (a1 : Int)) = false := by simp; omega
                                      have HNF := Lib.hid (show ¬ revAt F a1 b1 o from fun h => u2 (HFW.out.1 h).2)
                                      clear u1 u2
                                      go_wp2_with (first | go_skip | ((with_reducible show wpList _ _ _ (_ :: _) _ _); (with_reducible apply wpl_loadCell cell_party); (· rfl); (· rfl); (· with_reducible first | exact hf0 _ _ (fun x hx => List.mem_cons_of_mem _ (List.mem_cons_of_mem _ hx)) H | exact hf1 _ _ (fun x hx => List.mem_cons_of_mem _ (List.mem_cons_of_mem _ hx)) H); (simp only [Act.put, List.setIfInBounds_toArray, List.set_cons_zero, List.set_cons_succ])) | ((with_reducible show wpList _ _ _ (_ :: _) _ _); (with_reducible apply wpl_storeOwnI cell_int8); (· rfl); (· rfl); (· rfl); (· exact H); (· (repeat (first | (with_reducible exact List.mem_cons_self) | with_reducible apply List.mem_cons_of_mem))); (· exact (Nat.zero_add _).symm); (· exact hka); (· (repeat (first | (with_reducible exact Repl.here) | with_reducible apply Repl.there))); (clear H; intro _ H); (simp only [Act.put, List.setIfInBounds_toArray, List.set_cons_zero, List.set_cons_succ])))
                                      refine ⟨⟨o + 1, z, by omega, by go_num, HZ.out.no HNF.out, H⟩, ?measureG2⟩
                                      case measureG2 => simp [intOf]; omega
                                  · have e1 : ((f : Int) == (b1 : Int)) = false := by simp; omega
                                    have HNF := Lib.hid (show ¬ revAt F a1 b1 o from fun h => u1 (HFW.out.1 h).1)
                                    clear u1
                                    go_wp2_with (first | go_skip | ((with_reducible show wpList _ _ _ (_ :: _) _ _); (with_reducible apply wpl_loadCell cell_party); (· rfl); (· rfl); (· with_reducible first | exact hf0 _ _ (fun x hx => List.mem_cons_of_mem _ (List.mem_cons_of_mem _ hx)) H | exact hf1 _ _ (fun x hx => List.mem_cons_of_mem _ (List.mem_cons_of_mem _ hx)) H); (simp only [Act.put, List.setIfInBounds_toArray, List.set_cons_zero, List.set_cons_succ])) | ((with_reducible show wpList _ _ _ (_ :: _) _ _); (with_reducible apply wpl_storeOwnI cell_int8); (· rfl); (· rfl); (· rfl); (· exact H); (· (repeat (first | (with_reducible exact List.mem_cons_self) | with_reducible apply List.mem_cons_of_mem))); (· exact (Nat.zero_add _).symm); (· exact hka); (· (repeat (first | (with_reducible exact Repl.here) | with_reducible apply Repl.there))); (clear H; intro _ H); (simp only [Act.put, List.setIfInBounds_toArray, List.set_cons_zero, List.set_cons_succ])))
                                    refine ⟨⟨o + 1, z, by omega, by go_num, HZ.out.no HNF.out, H⟩, ?measureG3⟩
                                    case measureG3 => simp [intOf]; omega
                                · obtain rfl : i = o := by omega
                                  obtain rfl : z = (i0 : Int) := FdC.rev HM.out HL.out HSI.out.2 HZ.out
                                  have hzk : (xa.set k (.int .i64 (i0 : Int)))[k]? = some (.int .i64 (i0 : Int)) := List.getElem?_set_self hlk
                                  have hza : ∀ w', Heap W (OwnT 3 1 (.slice (some ⟨ga, 0, none⟩) tn tn) tn (xa.set k (.int .i64 (i0 : Int))) :: OwnT 4 1 (.slice (some ⟨gb, 0, none⟩) tn tn) tn (xb.set k (.bool true)) :: LL) w' → w'.cell? ⟨ga, k, none⟩ = some (.int .i64 (i0 : Int)) := own_at List.mem_cons_self hzk
                                  go_wp2_with (go_skip)
                                  refine wp_region_H H (by kernel_rfl) (by kernel_rfl) ?_
                                  repeat (first | go_big_quiet_skip | ((with_reducible first | apply wpQ_loadAt cell_int8 | apply wpQ_loadAt cell_i64); (· rfl); (· rfl); (· with_reducible first | exact fun w2 h2 => hza w2 h2 | exact fun w2 h2 => hg2 _ w2 (fun x hx => List.mem_cons_of_mem _ (List.mem_cons_of_mem _ hx)) h2 | exact fun w2 h2 => hgl _ w2 (fun x hx => List.mem_cons_of_mem _ (List.mem_cons_of_mem _ hx)) h2); (simp only [Act.put, List.setIfInBounds_toArray, List.set_cons_zero, List.set_cons_succ])) | go_big_quiet_step (fail))
                                  refine wpQuiet_nil ?_
                                  clear H
                                  intro _ H
                                  go_wp2_with (go_skip)
                                  refine ⟨⟨k + 1, _, _, by omega, by go_num, ?_, by rw [List.length_set]; exact hxa, by rw [List.length_set]; exact hxb, HAT.out.put1 HSI.out.1 hlk hkb, H⟩, ?measureF2⟩
                                  case measureF2 => simp [intOf]; omega
                                  rw [List.take_add_one, HSI.out.1, Option.toList_some, minS_snoc, HMO.out]
                                  rfl
                      · obtain rfl : tn = k := by omega
                        rw [List.take_of_length_le (by rw [HSL.out]; exact Nat.le_refl _)]
                        have v1 := minS_pos F N S 1099511627776 (by omega) fun x hx => (H2.out x hx).2
                        have v2 := (minS_le F N S 1099511627776).1
                        obtain ⟨v, hv⟩ : ∃ v, minS F N 1099511627776 S = v := ⟨_, rfl⟩
                        have HVE := Lib.hid hv
                        rw [hv] at v1 v2 ⊢
                        clear hv
                        go_wp2_with (go_skip)
                        replace H := H.pull (.there (.there (.there .here)))
                        generalize hl2 : OwnT 3 1 (.slice (some ⟨ga, 0, none⟩) tn tn) tn xa :: OwnT 4 1 (.slice (some ⟨gb, 0, none⟩) tn tn) tn xb :: OwnT 30 1 (.slice (some ⟨tb, to, none⟩) tn tc) tn (T.map pv) :: l = l2 at *
                        have HA := Lib.hid (show OwnT 3 1 (.slice (some ⟨ga, 0, none⟩) tn tn) tn xa ∈ l2 by rw [← hl2]; exact List.mem_cons_self)
                        have HB := Lib.hid (show OwnT 4 1 (.slice (some ⟨gb, 0, none⟩) tn tn) tn xb ∈ l2 by rw [← hl2]; exact List.mem_cons_of_mem _ List.mem_cons_self)
                        have HSB := Lib.hid (show List.Sublist l l2 by rw [← hl2]; exact .cons _ (.cons _ (.cons _ (.refl _))))
                        clear hl2
                        have H0 := H
                        clear H
                        go_loopw [21] (fun k wr => RfG W l l2 N S v g i tn k wr) (fun k _ => tn - (intOf k).toNat)
                        case atStart => exact ⟨0, Nat.zero_le _, rfl, H0⟩
                        case round => as_aux_lemma =>
                          obtain ⟨k, hk2, rfl, H⟩ := hrel.out
                          clear H0 hrel
                          by_cases hlt : k < tn
                          · obtain ⟨i0, b, s1, _⟩ := HS.out.2 k (by rw [HTN.out]; exact hlt)
                            have hi0 := (H2.out _ (List.mem_of_getElem? s1)).1
                            simp only at hi0
                            rw [HL.out] at hi0
                            have hfi : F[i0]? = some (F[i0]'(by rw [HL.out]; exact hi0)) := List.getElem?_eq_getElem _
                            have hni : N[i0]? = some (N[i0]'(by rw [HN.out]; exact hi0)) := List.getElem?_eq_getElem _
                            generalize F[i0]'(by rw [HL.out]; exact hi0) = x at *
                            generalize N[i0]'(by rw [HN.out]; exact hi0) = m at *
                            have hbx := HI.out.bnd i0 x m hfi hni
                            have hxo := (HM.out.okX hfi).2.2.2.2.2.2
                            have hgo : (goS v (S.take k) N)[i0]? = some m := by
                              rw [goS_other _ _ _ _ (nodup_before H3.out s1)]; exact hni
                            have hsn : goS v (S.take (k + 1)) N = (goS v (S.take k) N).set i0 (m + if b then v else -v) := by
                              rw [List.take_add_one, s1, Option.toList_some, goS_snoc, List.getD_eq_getElem?_getD, hgo]; rfl
                            have HSN := Lib.hid hsn
                            have hgl : (i64L (goS v (S.take k) N)).length = i := by rw [i64L_len, goS_len, HN.out]
                            generalize goS v (S.take k) N = N' at *
                            have hza := own_sub (W := W) HA.out ((HAT.out.1 k i0 b hlt s1).1)
                            have hzb := own_sub (W := W) HB.out ((HAT.out.1 k i0 b hlt s1).2)
                            have hzl : ∀ w', Heap W (LfT g i N' :: l2) w' → w'.cell? ⟨g, i0, none⟩ = some (.int .i64 m) := own_at List.mem_cons_self (i64L_at hgo)
                            have hkl : i0 < (i64L N').length := by rw [hgl]; exact hi0
                            have hm2 : m ≤ 1099511627776 := by omega
                            have hm0 := hbx.1
                            clear hfi hni s1 hgo hsn hgl hbx hxo
                            cases b
                            · go_wp2_with (first | go_skip | ((with_reducible show wpList _ _ _ (_ :: _) _ _); (with_reducible apply wpl_loadCell cell_bool8); (· rfl); (· rfl); (· exact hzb _ _ (fun x hx => List.mem_cons_of_mem _ hx) H); (simp only [Act.put, List.setIfInBounds_toArray, List.set_cons_zero, List.set_cons_succ])))
                              refine wp_region_H_tail 15 H (by kernel_rfl) (by kernel_rfl) ?_
                              simp only [List.take_succ_cons, List.take_zero, List.drop_succ_cons, List.drop_zero]
                              repeat (first | go_big_quiet_skip | ((with_reducible first | apply wpQ_loadAt cell_int8 | apply wpQ_loadAt cell_i64); (· rfl); (· rfl); (· with_reducible first | exact fun w2 h2 => hza _ w2 (fun x hx => List.mem_cons_of_mem _ hx) h2 | exact fun w2 h2 => hzl w2 h2); (simp only [Act.put, List.setIfInBounds_toArray, List.set_cons_zero, List.set_cons_succ])) | go_big_quiet_step (fail))
                              refine wpQuiet_nil ?_
                              clear H
                              intro _ H
                              go_wp2_with (first | go_skip | ((with_reducible show wpList _ _ _ (_ :: _) _ _); (with_reducible apply wpl_storeOwnI cell_i64); (· rfl); (· rfl); (· rfl); (· exact H); (· (repeat (first | (with_reducible exact List.mem_cons_self) | with_reducible apply List.mem_cons_of_mem))); (· exact (Nat.zero_add _).symm); (· exact hkl); (· (repeat (first | (with_reducible exact Repl.here) | with_reducible apply Repl.there))); (clear H; intro _ H); (simp only [Act.put, List.setIfInBounds_toArray, List.set_cons_zero, List.set_cons_succ])))
                              rw [i64L_set] at H
                              refine ⟨⟨k + 1, by omega, by go_num, ?_⟩, ?measureH0⟩
                              case measureH0 => simp [intOf]; omega
                              rw [HSN.out]
                              simpa [Int.sub_eq_add_neg] using H
                            · go_wp2_with (first | go_skip | ((with_reducible show wpList _ _ _ (_ :: _) _ _); (with_reducible apply wpl_loadCell cell_bool8); (· rfl); (· rfl); (· exact hzb _ _ (fun x hx => List.mem_cons_of_mem _ hx) H); (simp only [Act.put, List.setIfInBounds_toArray, List.set_cons_zero, List.set_cons_succ])))
                              refine wp_region_H_tail 15 H (by kernel_rfl) (by kernel_rfl) ?_
                              simp only [List.take_succ_cons, List.take_zero, List.drop_succ_cons, List.drop_zero]
                              repeat (first | go_big_quiet_skip | ((with_reducible first | apply wpQ_loadAt cell_int8 | apply wpQ_loadAt cell_i64); (· rfl); (· rfl); (· with_reducible first | exact fun w2 h2 => hza _ w2 (fun x hx => List.mem_cons_of_mem _ hx) h2 | exact fun w2 h2 => hzl w2 h2); (simp only [Act.put, List.setIfInBounds_toArray, List.set_cons_zero, List.set_cons_succ])) | go_big_quiet_step (fail))
                              refine wpQuiet_nil ?_
                              clear H
                              intro _ H
                              go_wp2_with (first | go_skip | ((with_reducible show wpList _ _ _ (_ :: _) _ _); (with_reducible apply wpl_storeOwnI cell_i64); (· rfl); (· rfl); (· rfl); (· exact H); (· (repeat (first | (with_reducible exact List.mem_cons_self) | with_reducible apply List.mem_cons_of_mem))); (· exact (Nat.zero_add _).symm); (· exact hkl); (· (repeat (first | (with_reducible exact Repl.here) | with_reducible apply Repl.there))); (clear H; intro _ H); (simp only [Act.put, List.setIfInBounds_toArray, List.set_cons_zero, List.set_cons_succ])))
                              rw [i64L_set] at H
                              refine ⟨⟨k + 1, by omega, by go_num, ?_⟩, ?measureH1⟩
                              case measureH1 => simp [intOf]; omega
                              rw [HSN.out]
                              simpa [Int.sub_eq_add_neg] using H
                          · obtain rfl : tn = k := by omega
                            rw [List.take_of_length_le (by rw [HSL.out]; exact Nat.le_refl _)] at H
                            go_wp2_with (go_skip)
                            refine ⟨⟨j + 1, _, by go_num, .step HRT.out HN0.out ⟨S, HS0.out, by rw [HVE.out]⟩, by omega, H.sub (.cons_cons _ HSB.out)⟩, ?measureI1⟩
                            case measureI1 => simp [intOf]; omega
    · have d1 : decide (MayD F) = true := decide_eq_true hM
      have d2 : decide (q < 0) = true := decide_eq_true (by omega)
      rw [d1] at M
      have HM := Lib.hid hM
      have HQ := Lib.hid hq
      clear hM d1 hq
      go_wp2_with (first | go_skip | ((with_reducible refine AnsH.call (by assumption) H ?_); clear H; intro _ H))
      go_ret3
      exact ⟨_, [], 0, 1, rfl, .inl ⟨.inr (by have := HQ.out; omega), rfl, rfl, rfl⟩, Heap.nilOwn _ _ H⟩
  · have d1 : decide (MayD F) = false := decide_eq_false hM
    rw [d1] at M
    have HM := Lib.hid hM
    clear hM d1
    go_wp2_with (first | go_skip | ((with_reducible refine AnsH.call (by assumption) H ?_); clear H; intro _ H))
    go_ret3
    exact ⟨_, [], 0, 1, rfl, .inl ⟨.inl HM.out, rfl, rfl, rfl⟩, Heap.nilOwn _ _ H⟩
end
end Go.Proofs.YtgobnamhdkbbeaaGreat

/- countinghouseref03: Total. -/
namespace Go.Proofs.YtgobnamhdkbbeaaGreat
open Go.RowKit
set_option linter.unusedSimpArgs false
set_option linter.unusedVariables false
set_option maxRecDepth 100000
set_option maxHeartbeats 8000000
theorem take_snocT {α : Type} {L : List α} {k : Nat} {y : α} (h : L[k]? = some y) : L.take (k + 1) = L.take k ++ [y] := by rw [List.take_add_one, h]; rfl
section
variable {W w : World} {l : List Thing} {p : Nat} {S : Lgr}
theorem rtot_H (c : Nat) (G : S.Good) (M : RefM l p S) : AnsH W l 39 #[.pointer (some ⟨p, 0, none⟩), .int .u8 (c : Int)] (.int .i64 (totL S.L c)) := by
  intro w H
  obtain ⟨_, _, _, b, m, d, h1, h2, m1, m2, m3⟩ := M
  have HR := Lib.hid (show ∀ w', Heap W l w' → Rd w' b (linL S.L) from fun w' h => h.rowRd m3)
  have HL := Lib.hid h2
  have HG := Lib.hid G
  have hm64 := G.few
  rw [h2] at hm64
  clear h1 h2 m2 m3 G
  go_enter Tryz.func39, Tryz.ntmps39
  go_wp2_with (go_skip)
  have H0 := H
  clear H
  go_loopw [5, 6] (fun v i wr => SumR W l m (fun k => totL (S.L.take k) c) v i wr) (fun _ i _ => m - (intOf i).toNat)
  case atStart => exact ⟨0, Nat.zero_le _, rfl, rfl, H0⟩
  case round =>
    obtain ⟨k, hk, rfl, rfl, H⟩ := hrel.out
    clear H0 hrel
    by_cases hlt : k < m
    · have hkL : k < S.L.length := by rw [HL.out]; exact hlt
      obtain ⟨y, hy⟩ : ∃ y, S.L[k]? = some y := ⟨S.L[k], List.getElem?_eq_getElem hkL⟩
      obtain ⟨bb, o, rfl, _⟩ := (HR.out _ H).lt (by rw [linL_len, HL.out]; omega)
      have HC := Lib.hid (show ∀ w', Heap W l w' → _ from fun w' h => rd_lin (HR.out w' h) hy)
      have hmem : y ∈ S.L := List.mem_of_getElem? hy
      have hdeb := HG.out.debs _ hmem
      have hbnd := totL_bound (L := S.L.take k) (fun x hx => HG.out.debs x (List.mem_of_mem_take hx)) (c : Int)
      have hlk : (S.L.take k).length = k := by simp; omega
      rw [hlk] at hbnd
      have hsn : totL (S.L.take (k + 1)) c = totL (S.L.take k) c + (if y.cu = c then y.deb else 0) := by rw [take_snocT hy, totL_snoc]
      have HSN := Lib.hid hsn
      generalize totL (S.L.take k) c = s0 at *
      have w1 : wrap64 (s0 + y.deb) = s0 + y.deb := IntWalk.wrap64_in _ ⟨by omega, by omega⟩
      have w2 : wrap64 (s0 - y.deb) = s0 - y.deb := IntWalk.wrap64_in _ ⟨by omega, by omega⟩
      clear hsn hmem hbnd hlk hdeb hy hkL
      by_cases e1 : y.cu = c
      · have b1 : (y.cu == (c : Int)) = true := by simpa using e1
        have HE := Lib.hid (show totL (S.L.take (k + 1)) c = s0 + y.deb by rw [HSN.out, if_pos e1])
        clear e1
        clear HSN
        go_wp2_with (first
          | go_skip
          | ((with_reducible show wpList _ _ _ (_ :: _) _ _); (with_reducible apply wpl_loadCH); (· exact cell_lins); (· rfl); (· rfl); (· exact H); (· exact m1); (· exact refA_g1 ..); (simp only [Act.put, List.setIfInBounds_toArray, List.set_cons_zero, List.set_cons_succ]))
          | ((with_reducible show wpList _ _ _ (_ :: _) _ _); (with_reducible apply wpl_loadCell); (· first | exact cell_party | exact cell_cur | exact cell_i64); (· rfl); (· rfl); (· first | exact (HC.out _ H).1 | exact (HC.out _ H).2.1 | exact (HC.out _ H).2.2.1 | exact (HC.out _ H).2.2.2.2); (simp only [Act.put, List.setIfInBounds_toArray, List.set_cons_zero, List.set_cons_succ])))
        refine ⟨⟨k + 1, by omega, by go_num, by rw [HE.out]; try first | rfl | rw [w1] | rw [w2], H⟩, ?measure1⟩
        case measure1 => simp [intOf]; omega
      · have b1 : (y.cu == (c : Int)) = false := by simpa using e1
        have HE := Lib.hid (show totL (S.L.take (k + 1)) c = s0 by rw [HSN.out, if_neg e1]; omega)
        clear e1
        clear HSN
        go_wp2_with (first
          | go_skip
          | ((with_reducible show wpList _ _ _ (_ :: _) _ _); (with_reducible apply wpl_loadCH); (· exact cell_lins); (· rfl); (· rfl); (· exact H); (· exact m1); (· exact refA_g1 ..); (simp only [Act.put, List.setIfInBounds_toArray, List.set_cons_zero, List.set_cons_succ]))
          | ((with_reducible show wpList _ _ _ (_ :: _) _ _); (with_reducible apply wpl_loadCell); (· first | exact cell_party | exact cell_cur | exact cell_i64); (· rfl); (· rfl); (· first | exact (HC.out _ H).1 | exact (HC.out _ H).2.1 | exact (HC.out _ H).2.2.1 | exact (HC.out _ H).2.2.2.2); (simp only [Act.put, List.setIfInBounds_toArray, List.set_cons_zero, List.set_cons_succ])))
        refine ⟨⟨k + 1, by omega, by go_num, by rw [HE.out]; try first | rfl | rw [w1] | rw [w2], H⟩, ?measure2⟩
        case measure2 => simp [intOf]; omega
    · obtain rfl : k = m := by omega
      have HE := Lib.hid (show totL (S.L.take k) c = totL S.L c by rw [List.take_of_length_le (by rw [HL.out]; exact Nat.le_refl _)])
      go_wp2_with (first
        | go_skip
        | ((with_reducible show wpList _ _ _ (_ :: _) _ _); (with_reducible apply wpl_loadCH); (· exact cell_lins); (· rfl); (· rfl); (· exact H); (· exact m1); (· exact refA_g1 ..); (simp only [Act.put, List.setIfInBounds_toArray, List.set_cons_zero, List.set_cons_succ])))
      go_ret
      exact ⟨by rw [← HE.out]; rfl, H⟩
end
end Go.Proofs.YtgobnamhdkbbeaaGreat
