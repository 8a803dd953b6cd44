/- FlowsMost: part 11 of its proof: BkRows, SameF, MarkF, BkFl, Play05. -/
import Derived.Test.YtglehneaphigdaaFlowsMostPart10
import Derived.Laws.StructEq
/- Pages of rows: what is written where. -/
namespace Go.Proofs.Ytglehneaphigdaa
open Go.RowKit
def putRow (xs : List Value) (k K : Nat) (m : Array Value) : List Value := xs.take (k * K) ++ m.toList ++ xs.drop (k * K + K)
theorem putRow_len {xs : List Value} {k K : Nat} {m : Array Value} (hm : m.size = K) (h : k * K + K ≤ xs.length) : (putRow xs k K m).length = xs.length := by
  unfold putRow
  simp [hm]
  omega
theorem putRow_at {xs : List Value} {k K : Nat} {m : Array Value} (hm : m.size = K) (h : k * K + K ≤ xs.length) : ((putRow xs k K m).drop (k * K)).take K = m.toList := by
  unfold putRow
  have h1 : (xs.take (k * K)).length = k * K := by simp; omega
  rw [List.append_assoc]
  conv => lhs; rw [← h1]
  rw [h1, List.drop_append_of_le_length (by omega), List.drop_of_length_le (by omega), List.nil_append]
  have h2 : m.toList.length = K := by simpa using hm
  rw [← h2, List.take_left]
theorem putRow_off {xs : List Value} {k K i : Nat} {m : Array Value} (hm : m.size = K) (h : k * K + K ≤ xs.length) (hi : i ≠ k) : ((putRow xs k K m).drop (i * K)).take K = (xs.drop (i * K)).take K := by
  unfold putRow
  have h1 : (xs.take (k * K)).length = k * K := by simp; omega
  have h2 : m.toList.length = K := by simpa using hm
  apply List.ext_getElem?
  intro j
  rw [List.getElem?_take, List.getElem?_take]
  by_cases hj : j < K
  · rw [if_pos hj, if_pos hj, List.getElem?_drop, List.getElem?_drop]
    rcases Nat.lt_or_gt_of_ne hi with hlt | hgt
    · have h3 : i * K + K ≤ k * K := by
        have := Nat.mul_le_mul_right K (show i + 1 ≤ k from hlt)
        rw [Nat.succ_mul] at this
        exact this
      rw [List.append_assoc, List.getElem?_append_left (by omega), List.getElem?_take, if_pos (by omega)]
    · have h3 : k * K + K ≤ i * K := by
        have := Nat.mul_le_mul_right K (show k + 1 ≤ i from hgt)
        rw [Nat.succ_mul] at this
        exact this
      rw [List.append_assoc, List.getElem?_append_right (by omega), List.getElem?_append_right (by omega), List.getElem?_drop]
      congr 1
      omega
  · rw [if_neg hj, if_neg hj]
def MarksR (K : Nat) (m : Array Value) (lo hi : Nat) (xs : List Value) : Prop := ∀ i, lo ≤ i → i < hi → (xs.drop (i * K)).take K = m.toList
theorem MarksR.step {K : Nat} {m : Array Value} {lo k : Nat} {xs : List Value} (h : MarksR K m lo k xs) (hm : m.size = K) (hk : k * K + K ≤ xs.length) : MarksR K m lo (k + 1) (putRow xs k K m) := by
  intro i h1 h2
  by_cases e : i = k
  · subst e; exact putRow_at hm hk
  · rw [putRow_off hm hk e]; exact h i h1 (by omega)
theorem MarksR.off {K : Nat} {m m2 : Array Value} {lo hi k : Nat} {xs : List Value} (h : MarksR K m lo hi xs) (hm : m2.size = K) (hk : k * K + K ≤ xs.length) (hh : hi ≤ k) : MarksR K m lo hi (putRow xs k K m2) := by
  intro i h1 h2
  rw [putRow_off hm hk (by omega)]
  exact h i h1 h2
def browR (sl : Value) (m b : Array Value) : Array Value := (sl :: (m.toList ++ b.toList)).toArray
theorem browR_g0 (sl : Value) (m b : Array Value) : (browR sl m b)[0]? = some sl := rfl
theorem browR_sz {sl : Value} {m b : Array Value} {K : Nat} (hm : m.size = K) (hb : b.size = K) : (browR sl m b).size = 1 + K + K := by
  unfold browR
  simp [hm, hb]
  omega
theorem browR_g1 {sl : Value} {m b : Array Value} {K : Nat} (hm : m.size = K) : (browR sl m b).extract 1 (1 + K) = m := by
  unfold browR
  apply Array.ext'
  have h2 : m.toList.length = K := by simpa using hm
  simp only [List.extract_toArray, List.extract_eq_take_drop, List.drop_succ_cons, List.drop_zero]
  rw [show 1 + K - 1 = m.toList.length by omega, List.take_left]
theorem browR_g2 {sl : Value} {m b : Array Value} {K : Nat} (hm : m.size = K) (hb : b.size = K) : (browR sl m b).extract (1 + K) (1 + K + K) = b := by
  unfold browR
  apply Array.ext'
  have h2 : m.toList.length = K := by simpa using hm
  have h3 : b.toList.length = K := by simpa using hb
  simp only [List.extract_toArray, List.extract_eq_take_drop]
  rw [show 1 + K = (sl :: m.toList).length by simp [hm]; omega, ← List.cons_append, List.drop_left, show (sl :: m.toList).length + K - (sl :: m.toList).length = b.toList.length by omega, List.take_length]
theorem mul_slot {k c K : Nat} (h : k < c) : k * K + K ≤ c * K := by
  have := Nat.mul_le_mul_right K (show k + 1 ≤ c from h)
  rw [Nat.succ_mul] at this
  exact this
structure GoodR (K : Nat) (T : TypeId) (m : Array Value) : Prop where
  cells : Cells K m
  neq : ∀ w, (binOp .neq T (.agg m) (.agg m)).run Try.prog w = .ok (.bool false) w
theorem GoodR.sz {K : Nat} {T : TypeId} {m : Array Value} (h : GoodR K T m) : m.size = K := h.cells.1
end Go.Proofs.Ytglehneaphigdaa

/- countinghouselaw01's SameFlows. -/
namespace Go.Proofs.Ytglehneaphigdaa
open Go.RowKit
set_option linter.unusedSimpArgs false
set_option linter.unusedVariables false
instance : DecidableEq Flw := fun x y => if h : x.f = y.f ∧ x.t = y.t ∧ x.n = y.n then .isTrue (by cases x; cases y; simp at h; obtain ⟨rfl, rfl, rfl⟩ := h; rfl) else .isFalse (fun e => by subst e; exact h ⟨rfl, rfl, rfl⟩)
def flowSame (a b n x y z : Int) : Bool := decide (a = x ∧ b = y ∧ n = z)
theorem eqF_run (d : Nat) (a b n x y z : Int) (w : World) : (Op.equalIn (d + 2) 35 (.agg (flow a b n)) (.agg (flow x y z))).run Try.prog w = .ok (flowSame a b n x y z) w := by
  unfold flow
  rw [run_equalIn_struct w (d + 1) 35 _ _ (by kernel_rfl) (by kernel_rfl)]
  have hu := Try.underlying33
  have hv := Try.underlying2
  by_cases h1 : a = x <;> by_cases h2 : b = y <;> by_cases h3 : n = z
  all_goals simp [flowSame, go_sem, Try.underlying35, hu, hv, h1, h2, h3]
theorem neqF_run (a b n x y z : Int) (w : World) : (binOp .neq 35 (.agg (flow a b n)) (.agg (flow x y z))).run Try.prog w = .ok (.bool (!flowSame a b n x y z)) w := by
  have h : (Op.equal 35 (.agg (flow a b n)) (.agg (flow x y z))).run Try.prog w = .ok (flowSame a b n x y z) w := eqF_run 9998 a b n x y z w
  simp only [binOp]
  simp [Sem.run_bind, h]
section
variable {W w : World} {l : List Thing} {ops : Array Oper} {rest : List Oper} {a : Act}
theorem wpQ_neqF {dst : Option Tmp} {ty : TypeId} {pos : String} {after : Array Edge} {guard : Option (Nat × Bool)} {p q : Operand} {a0 b0 n0 x y n : Int} {K : Act → Prop} {H : Heap W l w} (hw : Region.wanted ⟨dst, .binOp .neq 35 p q 35, ty, pos, after, guard⟩ (yielded ops a.tmps) = true) (hp : a.eval p = .agg (flow a0 b0 n0)) (hq : a.eval q = .agg (flow x y n))
    (h : wpQuiet Try.prog ops (fun w' => ∃ d, w' = H.any d) K rest (a.put dst (.bool (!flowSame a0 b0 n0 x y n)))) : wpQuiet Try.prog ops (fun w' => ∃ d, w' = H.any d) K (⟨dst, .binOp .neq 35 p q 35, ty, pos, after, guard⟩ :: rest) a := by
  have hg : (Try.prog.eqGuardType Try.prog.depth 35) = false := by kernel_rfl
  refine BigFrame.wpQuiet_want hw fun K hK => ⟨_, ?_, hK _ h⟩
  rintro _ ⟨d, rfl⟩
  unfold Oper.quietAt execOp
  simp only [hp, hq, Sem.run_bind, neqF_run]
  simp [eqGuard, hg, neqF_run]
  exact ⟨rfl, rfl⟩
end
structure SameFL (W : World) (l : List Thing) (A B : List Flw) (n : Nat) (vi : Value) (wr : World) : Prop where
  out : ∃ k : Nat, k ≤ n ∧ vi = .int .i64 (k : Int) ∧ A.take k = B.take k ∧ Heap W l wr
section
variable {W w : World} {l : List Thing}
set_option maxRecDepth 100000
set_option maxHeartbeats 2000000
theorem sameF_no {A B : List Flw} (a b : Option Addr) (n m c d : Nat) (hA : A.length = n) (hB : B.length = m) (hn : n ≤ 1000000) (hm : m ≤ 1000000) (hne : n ≠ m) : AnsH W l 48 #[.slice a n c, .slice b m d] (.bool false) := by
  intro w H
  have e1 : ((n : Int) != (m : Int)) = true := by simp; omega
  have e2 : ((n : Int) == (m : Int)) = false := by simp; omega
  go_enter Try.func48, Try.ntmps48
  go_wp2_with (go_skip)
  go_ret
  exact ⟨rfl, H⟩
theorem sameF_P {A B : List Flw} (a b : Option Addr) (n c d : Nat) (hA : A.length = n) (hB : B.length = n) (hn : n ≤ 1000000) (RA : ∀ w', Heap W l w' → Rd w' a (flwL A)) (RB : ∀ w', Heap W l w' → Rd w' b (flwL B)) :
    AnsH W l 48 #[.slice a n c, .slice b n d] (.bool (decide (A = B))) := by
  intro w H
  have HA := Lib.hid hA
  have HB := Lib.hid hB
  have HRA := Lib.hid RA
  have HRB := Lib.hid RB
  clear hA hB RA RB
  generalize hres : decide (A = B) = res
  have HRES := Lib.hid hres
  clear hres
  go_enter Try.func48, Try.ntmps48
  go_wp2_with (go_skip)
  have H0 := H
  clear H
  go_loopw [5] (fun vi wr => SameFL W l A B n vi wr) (fun vi _ => n - (intOf vi).toNat)
  case atStart => exact ⟨0, Nat.zero_le _, rfl, rfl, H0⟩
  case round =>
    obtain ⟨k, hk, rfl, ht, H'⟩ := hrel.out
    clear H0 hrel
    have H := H'
    clear H'
    by_cases hlt : k < n
    · have hkA : k < A.length := by rw [HA.out]; exact hlt
      have hkB : k < B.length := by rw [HB.out]; exact hlt
      have hx : A[k]? = some A[k] := List.getElem?_eq_getElem hkA
      have hy : B[k]? = some B[k] := List.getElem?_eq_getElem hkB
      have ra := flwL_at A k hkA
      have rb := flwL_at B k hkB
      have hlA : k * 3 + 3 ≤ (flwL A).length := by rw [flwL_len]; omega
      have hlB : k * 3 + 3 ≤ (flwL B).length := by rw [flwL_len]; omega
      have HT := Lib.hid ht
      clear ht
      generalize A[k] = x at *
      generalize B[k] = y at *
      obtain ⟨ba, oa, rfl, _⟩ := (HRA.out _ H).lt (by omega)
      obtain ⟨bb, ob, rfl, _⟩ := (HRB.out _ H).lt (by omega)
      obtain ⟨xa, xb, xn⟩ := x
      obtain ⟨ya, yb, yn⟩ := y
      have hrA : (((flwL A).drop (k * 3)).take 3).toArray = flow (xa : Int) (xb : Int) xn := by rw [ra]; rfl
      have hrB : (((flwL B).drop (k * 3)).take 3).toArray = flow (ya : Int) (yb : Int) yn := by rw [rb]; rfl
      clear ra rb
      cases he : flowSame (xa : Int) (xb : Int) xn (ya : Int) (yb : Int) yn
      · have HN := Lib.hid (show A ≠ B from fun e => by
          subst e
          rw [hx] at hy
          obtain ⟨rfl, rfl, rfl⟩ := by simpa using hy
          simp [flowSame] at he)
        clear hx hy
        go_wp2_with (go_skip)
        refine wp_region_H H (by kernel_rfl) (by kernel_rfl) ?_
        repeat (first | go_big_quiet_skip | (first | ((with_reducible apply wpQ_loadRdR row_flow); (· rfl); (· rfl); (· exact HRA.out); (· rfl); (· exact hlA); (· decide); (· exact hrA); (simp only [Act.put, List.setIfInBounds_toArray, List.set_cons_zero, List.set_cons_succ])) | ((with_reducible apply wpQ_loadRdR row_flow); (· rfl); (· rfl); (· exact HRB.out); (· rfl); (· exact hlB); (· decide); (· exact hrB); (simp only [Act.put, List.setIfInBounds_toArray, List.set_cons_zero, List.set_cons_succ])) | ((with_reducible apply wpQ_neqF); (· rfl); (· rfl); (· rfl); (rw [he]); (simp only [Act.put, List.setIfInBounds_toArray, List.set_cons_zero, List.set_cons_succ]))) | go_big_quiet_step (fail))
        refine wpQuiet_nil ?_
        clear H
        intro _ H
        go_wp2_with (go_skip)
        go_ret
        rw [← HRES.out, decide_eq_false HN.out]
        exact ⟨rfl, H⟩
      · have HS := Lib.hid (show A.take (k + 1) = B.take (k + 1) by
          rw [List.take_add_one, List.take_add_one, hx, hy, HT.out]
          have h2 := he
          simp [flowSame] at h2
          obtain ⟨h3, h4, h5⟩ := h2
          have h3' : xa = ya := by omega
          have h4' : xb = yb := by omega
          subst h3' h4' h5
          rfl)
        clear hx hy
        go_wp2_with (go_skip)
        refine wp_region_H H (by kernel_rfl) (by kernel_rfl) ?_
        repeat (first | go_big_quiet_skip | (first | ((with_reducible apply wpQ_loadRdR row_flow); (· rfl); (· rfl); (· exact HRA.out); (· rfl); (· exact hlA); (· decide); (· exact hrA); (simp only [Act.put, List.setIfInBounds_toArray, List.set_cons_zero, List.set_cons_succ])) | ((with_reducible apply wpQ_loadRdR row_flow); (· rfl); (· rfl); (· exact HRB.out); (· rfl); (· exact hlB); (· decide); (· exact hrB); (simp only [Act.put, List.setIfInBounds_toArray, List.set_cons_zero, List.set_cons_succ])) | ((with_reducible apply wpQ_neqF); (· rfl); (· rfl); (· rfl); (rw [he]); (simp only [Act.put, List.setIfInBounds_toArray, List.set_cons_zero, List.set_cons_succ]))) | go_big_quiet_step (fail))
        refine wpQuiet_nil ?_
        clear H
        intro _ H
        go_wp2_with (go_skip)
        refine ⟨⟨k + 1, by omega, by go_num, HS.out, H⟩, ?measure⟩
        case measure => simp [intOf]; omega
    · obtain rfl : k = n := by omega
      have HE := Lib.hid (show A = B by
        have h := ht
        rw [List.take_of_length_le (by rw [HA.out]; exact Nat.le_refl _), List.take_of_length_le (by rw [HB.out]; exact Nat.le_refl _)] at h
        exact h)
      clear ht
      go_wp2_with (go_skip)
      go_ret
      rw [← HRES.out, decide_eq_true HE.out]
      exact ⟨rfl, H⟩
theorem sameFlows_P {A B : List Flw} (a b : Option Addr) (n m c d : Nat) (hA : A.length = n) (hB : B.length = m) (hn : n ≤ 1000000) (hm : m ≤ 1000000) (RA : ∀ w', Heap W l w' → Rd w' a (flwL A)) (RB : ∀ w', Heap W l w' → Rd w' b (flwL B)) :
    AnsH W l 23 #[.slice a n c, .slice b m d] (.bool (decide (A = B))) := by
  intro w H
  have S : AnsH W l 48 #[.slice a n c, .slice b m d] (.bool (decide (A = B))) := by
    by_cases e : n = m
    · subst e
      exact sameF_P a b n c d hA hB hn RA RB
    · rw [decide_eq_false (fun h => e (by rw [← hA, ← hB, h]))]
      exact sameF_no a b n m c d hA hB hn hm e
  clear RA RB hA hB
  generalize decide (A = B) = res at *
  go_enter Try.func23, Try.ntmps23
  go_wp2_with (first | go_skip | ((with_reducible refine AnsH.call (by assumption) H ?_); clear H; intro _ H))
  go_ret
  exact ⟨rfl, H⟩
end
end Go.Proofs.Ytglehneaphigdaa

/- The marks of a book's pages of flows. -/
namespace Go.Proofs.Ytglehneaphigdaa
open Go.RowKit
abbrev mkN (n : Int) : Array Value := #[.int .u8 0, .int .u8 0, .int .i64 n]
abbrev mkM (n : Int) : Array Value := #[.int .u8 0, .int .u8 0, .int .i64 (-n)]
theorem mkN_good (n : Int) : GoodR 3 35 (mkN n) := ⟨⟨rfl, by simp [Value.oneCell']⟩, fun w => by
  have := neqF_run 0 0 n 0 0 n w
  rw [show flowSame 0 0 n 0 0 n = true by simp [flowSame]] at this
  exact this⟩
theorem mkM_good (n : Int) : GoodR 3 35 (mkM n) := mkN_good (-n)
end Go.Proofs.Ytglehneaphigdaa

/- A book's pages of api.Flow: what write, writeBehind, stands and the book's method do. -/
namespace Go.Proofs.Ytglehneaphigdaa
open Go.RowKit
set_option linter.unusedSimpArgs false
set_option linter.unusedVariables false
theorem cell_slFl : CellTy 22 := ⟨⟨_, Try.underlying22, rfl⟩, by kernel_rfl⟩
structure WLoopFl (W : World) (l : List Thing) (pb : Nat) (a : Option Addr) (n c lo hi : Nat) (m b v : Array Value) (P : Nat → List Value → Prop) (i : Value) (wr : World) : Prop where
  out : ∃ (k : Nat) (xs : List Value), i = .int .i64 (k : Int) ∧ lo ≤ k ∧ k ≤ hi ∧ P k xs ∧ Heap W (OwnT 35 3 (.slice a c c) c xs :: Cel pb (browR (.slice a n c) m b) 96 :: l) wr
section
variable {W w : World} {l : List Thing} {ops : Array Oper} {rest : List Oper} {a : Act}
theorem wpQ_neqFl {dst : Option Tmp} {ty : TypeId} {pos : String} {after : Array Edge} {guard : Option (Nat × Bool)} {p q : Operand} {m : Array Value} {K : Act → Prop} {H : Heap W l w} (hw : Region.wanted ⟨dst, .binOp .neq 35 p q 35, ty, pos, after, guard⟩ (yielded ops a.tmps) = true) (hp : a.eval p = .agg m) (hq : a.eval q = .agg m) (hr : ∀ w, (binOp .neq 35 (.agg m) (.agg m)).run Try.prog w = .ok (.bool false) w)
    (h : wpQuiet Try.prog ops (fun w' => ∃ d, w' = H.any d) K rest (a.put dst (.bool false))) : wpQuiet Try.prog ops (fun w' => ∃ d, w' = H.any d) K (⟨dst, .binOp .neq 35 p q 35, ty, pos, after, guard⟩ :: rest) a := by
  have hg : (Try.prog.eqGuardType Try.prog.depth 35) = false := by kernel_rfl
  refine BigFrame.wpQuiet_want hw fun K hK => ⟨_, ?_, hK _ h⟩
  rintro _ ⟨d, rfl⟩
  unfold Oper.quietAt execOp
  simp only [hp, hq, Sem.run_bind, hr]
  simp [eqGuard, hg, hr]
  exact ⟨rfl, rfl⟩
end
section
variable {W w : World} {l : List Thing}
set_option maxRecDepth 100000
set_option maxHeartbeats 4000000
theorem write_Fl (a : Option Addr) (n c : Nat) (m b : Array Value) (hm : GoodR 3 35 m) (hb : GoodR 3 35 b) (H : Heap W (FullT 35 3 a n c (fun _ => True) :: l) w) :
    Calls Try.prog 90 #[.agg (browR (.slice a n c) m b)] w fun e w' => e = .returned (.tuple #[]) ∧ Heap W (FullT 35 3 a n c (MarksR 3 m 0 n) :: l) w' := by
  obtain ⟨xs0, -, hn, hc, hl, ha, H'⟩ := H.openFull
  clear H
  have H := H'
  clear H'
  have hcm := hc
  unfold maxLen at hcm
  have HC := Lib.hid hc
  clear ha hc hl
  have hb1 : 1 + 3 ≤ (browR (.slice a n c) m b).size := by rw [browR_sz hm.sz hb.sz]; omega
  have hb2 : 1 + 3 + 3 ≤ (browR (.slice a n c) m b).size := by rw [browR_sz hm.sz hb.sz]; omega
  have he1 : (browR (.slice a n c) m b).extract 1 (1 + 3) = m := browR_g1 hm.sz
  have he2 : (browR (.slice a n c) m b).extract (1 + 3) (1 + 3 + 3) = b := browR_g2 hm.sz hb.sz
  go_enter Try.func90, Try.ntmps90
  go_wp2_with (first | go_skip | ((with_reducible show wpList _ _ _ (_ :: _) _ _); (with_reducible apply wpl_boxRH); (· rfl); (· rfl); (· exact H); (clear H; intro pb _ H); (simp only [Act.put, List.setIfInBounds_toArray, List.set_cons_zero, List.set_cons_succ])))
  have H0 := H.perm (.swap _ _ _)
  clear H
  go_loopw [2] (fun i wr => WLoopFl W l pb a n c 0 n m b m (fun k xs => xs.length = c * 3 ∧ MarksR 3 m 0 k xs) i wr) (fun i _ => n - (intOf i).toNat)
  case atStart => exact ⟨0, xs0, rfl, by omega, by omega, ⟨by have := OwnT.len (H0.ok _ List.mem_cons_self); omega, fun i h1 h2 => by omega⟩, H0⟩
  case round =>
    obtain ⟨k, xs, rfl, -, hk, ⟨hlen, hmk⟩, H'⟩ := hrel.out
    clear H0 hrel
    have H := H'
    clear H'
    by_cases hlt : k < n
    · obtain ⟨g, o, c', e, _, _⟩ := OwnT.form (H.ok _ List.mem_cons_self) (by omega)
      simp only [Value.slice.injEq, true_and] at e
      obtain ⟨rfl, rfl⟩ := e
      have hkl : k * 3 + 3 ≤ xs.length := by have := mul_slot (k := k) (c := c) (K := 3) (by omega); omega
      have HM := Lib.hid (And.intro (by rw [putRow_len hm.sz hkl]; exact hlen : (putRow xs k 3 m).length = c * 3) (hmk.step hm.sz hkl))
      clear hmk hlen
      go_wp2_with (first
        | go_skip
        | ((with_reducible show wpList _ _ _ (_ :: _) _ _); (with_reducible apply wpl_loadCH); (· exact cell_slFl); (· rfl); (· rfl); (· exact H); (· (repeat (first | (with_reducible exact List.mem_cons_self) | with_reducible apply List.mem_cons_of_mem))); (· exact browR_g0 ..); (simp only [Act.put, List.setIfInBounds_toArray, List.set_cons_zero, List.set_cons_succ]))
        | ((with_reducible show wpList _ _ _ (_ :: _) _ _); (with_reducible apply wpl_loadRH row_flow); (· rfl); (· rfl); (· exact H); (· (repeat (first | (with_reducible exact List.mem_cons_self) | with_reducible apply List.mem_cons_of_mem))); (· exact hb1); (· exact he1); (simp only [Act.put, List.setIfInBounds_toArray, List.set_cons_zero, List.set_cons_succ]))
        | ((with_reducible show wpList _ _ _ (_ :: _) _ _); (with_reducible apply wpl_storeOwnR row_flow); (· rfl); (· rfl); (· rfl); (· first | exact hm.cells | exact hb.cells); (· exact H); (· (repeat (first | (with_reducible exact List.mem_cons_self) | with_reducible apply List.mem_cons_of_mem))); (· rfl); (· exact hkl); (· rfl); (· (repeat (first | (with_reducible exact Repl.here) | with_reducible apply Repl.there))); (clear H; intro _ H); (simp only [Act.put, List.setIfInBounds_toArray, List.set_cons_zero, List.set_cons_succ])))
      refine ⟨?_, ?_⟩
      · exact ⟨⟨k + 1, _, by go_num, by omega, by omega, ⟨HM.out.1, HM.out.2⟩, H⟩⟩
      · simp [intOf]; omega
    · obtain rfl : n = k := by omega
      have HM := Lib.hid hmk
      clear hmk
      go_wp2_with (first
        | go_skip
        | ((with_reducible show wpList _ _ _ (_ :: _) _ _); (with_reducible apply wpl_loadCH); (· exact cell_slFl); (· rfl); (· rfl); (· exact H); (· (repeat (first | (with_reducible exact List.mem_cons_self) | with_reducible apply List.mem_cons_of_mem))); (· exact browR_g0 ..); (simp only [Act.put, List.setIfInBounds_toArray, List.set_cons_zero, List.set_cons_succ])))
      go_end0
      exact ⟨rfl, (H.drop (.there .here)).shutFull hn HC.out HM.out⟩
theorem behind_Fl (a : Option Addr) (n c : Nat) (m b : Array Value) (hm : GoodR 3 35 m) (hb : GoodR 3 35 b) (H : Heap W (FullT 35 3 a n c (MarksR 3 m 0 n) :: l) w) :
    Calls Try.prog 91 #[.agg (browR (.slice a n c) m b)] w fun e w' => e = .returned (.tuple #[]) ∧ Heap W (FullT 35 3 a n c (fun xs => MarksR 3 m 0 n xs ∧ MarksR 3 b n c xs) :: l) w' := by
  obtain ⟨xs0, hm0, hn, hc, hl, ha, H'⟩ := H.openFull
  clear H
  have H := H'
  clear H'
  have hsl := fun wx => run_cutTo slF a n c c .i64 (Nat.le_refl _) wx
  have hcm := hc
  unfold maxLen at hcm
  have HC := Lib.hid hc
  have HM0 := Lib.hid hm0
  clear ha hc hl hm0
  have hb1 : 1 + 3 ≤ (browR (.slice a n c) m b).size := by rw [browR_sz hm.sz hb.sz]; omega
  have hb2 : 1 + 3 + 3 ≤ (browR (.slice a n c) m b).size := by rw [browR_sz hm.sz hb.sz]; omega
  have he1 : (browR (.slice a n c) m b).extract 1 (1 + 3) = m := browR_g1 hm.sz
  have he2 : (browR (.slice a n c) m b).extract (1 + 3) (1 + 3 + 3) = b := browR_g2 hm.sz hb.sz
  go_enter Try.func91, Try.ntmps91
  go_wp2_with (first
    | go_skip
    | ((with_reducible show wpList _ _ _ (_ :: _) _ _); (with_reducible apply wpl_boxRH); (· rfl); (· rfl); (· exact H); (clear H; intro pb _ H); (simp only [Act.put, List.setIfInBounds_toArray, List.set_cons_zero, List.set_cons_succ]))
    | ((with_reducible show wpList _ _ _ (_ :: _) _ _); (with_reducible apply wpl_loadCH); (· exact cell_slFl); (· rfl); (· rfl); (· exact H); (· (repeat (first | (with_reducible exact List.mem_cons_self) | with_reducible apply List.mem_cons_of_mem))); (· exact browR_g0 ..); (simp only [Act.put, List.setIfInBounds_toArray, List.set_cons_zero, List.set_cons_succ])))
  clear hsl
  have H0 := H.perm (.swap _ _ _)
  clear H
  go_loopw [3] (fun i wr => WLoopFl W l pb a n c n c m b b (fun k xs => xs.length = c * 3 ∧ MarksR 3 m 0 n xs ∧ MarksR 3 b n k xs) i wr) (fun i _ => c - (intOf i).toNat)
  case atStart => exact ⟨n, xs0, rfl, by omega, hn, ⟨by have := OwnT.len (H0.ok _ List.mem_cons_self); omega, HM0.out, fun i h1 h2 => by omega⟩, H0⟩
  case round =>
    obtain ⟨k, xs, rfl, hnk, hk, ⟨hlen, hm1, hmk⟩, H'⟩ := hrel.out
    clear H0 hrel HM0
    have H := H'
    clear H'
    by_cases hlt : k < c
    · obtain ⟨g, o, c', e, _, _⟩ := OwnT.form (H.ok _ List.mem_cons_self) (by omega)
      simp only [Value.slice.injEq, true_and] at e
      obtain ⟨rfl, rfl⟩ := e
      have hkl : k * 3 + 3 ≤ xs.length := by have := mul_slot (k := k) (c := c) (K := 3) (by omega); omega
      have HM := Lib.hid (And.intro (by rw [putRow_len hb.sz hkl]; exact hlen : (putRow xs k 3 b).length = c * 3) (And.intro (hm1.off hb.sz hkl hnk) (hmk.step hb.sz hkl)))
      clear hmk hlen hm1
      go_wp2_with (first
        | go_skip
        | ((with_reducible show wpList _ _ _ (_ :: _) _ _); (with_reducible apply wpl_loadRH row_flow); (· rfl); (· rfl); (· exact H); (· (repeat (first | (with_reducible exact List.mem_cons_self) | with_reducible apply List.mem_cons_of_mem))); (· exact hb2); (· exact he2); (simp only [Act.put, List.setIfInBounds_toArray, List.set_cons_zero, List.set_cons_succ]))
        | ((with_reducible show wpList _ _ _ (_ :: _) _ _); (with_reducible apply wpl_storeOwnR row_flow); (· rfl); (· rfl); (· rfl); (· first | exact hm.cells | exact hb.cells); (· exact H); (· (repeat (first | (with_reducible exact List.mem_cons_self) | with_reducible apply List.mem_cons_of_mem))); (· rfl); (· exact hkl); (· rfl); (· (repeat (first | (with_reducible exact Repl.here) | with_reducible apply Repl.there))); (clear H; intro _ H); (simp only [Act.put, List.setIfInBounds_toArray, List.set_cons_zero, List.set_cons_succ])))
      refine ⟨?_, ?_⟩
      · exact ⟨⟨k + 1, _, by go_num, by omega, by omega, ⟨HM.out.1, HM.out.2⟩, H⟩⟩
      · simp [intOf]; omega
    · obtain rfl : c = k := by omega
      have HM := Lib.hid (And.intro hm1 hmk)
      clear hmk hm1
      go_wp2_with (go_skip)
      go_end0
      exact ⟨rfl, (H.drop (.there .here)).shutFull hn HC.out HM.out⟩
structure SLoopFl (W : World) (l : List Thing) (c : Nat) (i : Value) (wr : World) : Prop where
  out : ∃ k : Nat, i = .int .i64 (k : Int) ∧ k ≤ c ∧ Heap W l wr
theorem stands_Fl (a : Option Addr) (n c : Nat) (m b : Array Value) (hm : GoodR 3 35 m) (hb : GoodR 3 35 b) (H : Heap W (FullT 35 3 a n c (fun xs => MarksR 3 m 0 n xs ∧ MarksR 3 b n c xs) :: l) w) :
    Calls Try.prog 89 #[.agg (browR (.slice a n c) m b)] w fun e w' => e = .returned (.bool true) ∧ Heap W (FullT 35 3 a n c (fun xs => MarksR 3 m 0 n xs ∧ MarksR 3 b n c xs) :: l) w' := by
  obtain ⟨xs, hm0, hn, hc, hl, ha, H'⟩ := H.openFull
  clear H
  have H := H'
  clear H'
  have hsl := fun wx => run_cutTo slF a n c c .i64 (Nat.le_refl _) wx
  have hcm := hc
  unfold maxLen at hcm
  have HC := Lib.hid hc
  have HM := Lib.hid hm0
  have HL := Lib.hid hl
  clear ha hc hl hm0
  have hb1 : 1 + 3 ≤ (browR (.slice a n c) m b).size := by rw [browR_sz hm.sz hb.sz]; omega
  have hb2 : 1 + 3 + 3 ≤ (browR (.slice a n c) m b).size := by rw [browR_sz hm.sz hb.sz]; omega
  have he1 : (browR (.slice a n c) m b).extract 1 (1 + 3) = m := browR_g1 hm.sz
  have he2 : (browR (.slice a n c) m b).extract (1 + 3) (1 + 3 + 3) = b := browR_g2 hm.sz hb.sz
  go_enter Try.func89, Try.ntmps89
  go_wp2_with (first
    | go_skip
    | ((with_reducible show wpList _ _ _ (_ :: _) _ _); (with_reducible apply wpl_boxRH); (· rfl); (· rfl); (· exact H); (clear H; intro pb _ H); (simp only [Act.put, List.setIfInBounds_toArray, List.set_cons_zero, List.set_cons_succ]))
    | ((with_reducible show wpList _ _ _ (_ :: _) _ _); (with_reducible apply wpl_loadCH); (· exact cell_slFl); (· rfl); (· rfl); (· exact H); (· (repeat (first | (with_reducible exact List.mem_cons_self) | with_reducible apply List.mem_cons_of_mem))); (· exact browR_g0 ..); (simp only [Act.put, List.setIfInBounds_toArray, List.set_cons_zero, List.set_cons_succ])))
  clear hsl
  have H0 := H
  clear H
  go_loopw [4] (fun i wr => SLoopFl W (Cel pb (browR (.slice a n c) m b) 96 :: OwnT 35 3 (.slice a c c) c xs :: l) c i wr) (fun i _ => c - (intOf i).toNat)
  case atStart => exact ⟨0, rfl, by omega, H0⟩
  case round =>
    obtain ⟨k, rfl, hk, H'⟩ := hrel.out
    clear H0 hrel
    have H := H'
    clear H'
    by_cases hlt : k < c
    · obtain ⟨g, o, c', e, _, _⟩ := OwnT.form (H.ok _ (List.mem_cons_of_mem _ List.mem_cons_self)) (by omega)
      simp only [Value.slice.injEq, true_and] at e
      obtain ⟨rfl, rfl⟩ := e
      have hkl : k * 3 + 3 ≤ xs.length := by have := mul_slot (k := k) (c := c) (K := 3) (by omega); rw [HL.out]; omega
      by_cases hkn : k < n
      · have hx := HM.out.1 k (by omega) hkn
        have HX := Lib.hid (show ∀ w', Heap W (Cel pb (browR (.slice (some ⟨g, o, none⟩) n c) m b) 96 :: OwnT 35 3 (.slice (some ⟨g, o, none⟩) c c) c xs :: l) w' → Rd w' (some ⟨g, o, none⟩) xs from fun w' h => h.ownRd (List.mem_cons_of_mem _ List.mem_cons_self))
        have hxa : ((xs.drop (k * 3)).take 3).toArray = m := by rw [hx]
        clear hx
        have hd1 : decide ((k : Int) < n) = true := by simp; omega
        have hd3 : decide (n ≤ k) = false := by simp; omega
        have hd4 : decide (k < n) = true := by simp; omega
        have hq := hm.neq
        go_wp2_with (go_skip)
        refine wp_region_H H (by kernel_rfl) (by kernel_rfl) ?_
        repeat (first | go_big_quiet_skip | (first | ((with_reducible apply wpQ_loadCH); (· exact cell_slFl); (· rfl); (· rfl); (· (repeat (first | (with_reducible exact List.mem_cons_self) | with_reducible apply List.mem_cons_of_mem))); (· exact browR_g0 ..); (simp only [Act.put, List.setIfInBounds_toArray, List.set_cons_zero, List.set_cons_succ])) | ((with_reducible apply wpQ_loadRH row_flow); (· rfl); (· rfl); (· (repeat (first | (with_reducible exact List.mem_cons_self) | with_reducible apply List.mem_cons_of_mem))); (· exact hb1); (· exact he1); (simp only [Act.put, List.setIfInBounds_toArray, List.set_cons_zero, List.set_cons_succ])) | ((with_reducible apply wpQ_loadRH row_flow); (· rfl); (· rfl); (· (repeat (first | (with_reducible exact List.mem_cons_self) | with_reducible apply List.mem_cons_of_mem))); (· exact hb2); (· exact he2); (simp only [Act.put, List.setIfInBounds_toArray, List.set_cons_zero, List.set_cons_succ])) | ((with_reducible apply wpQ_loadRdR row_flow); (· rfl); (· rfl); (· exact HX.out); (· rfl); (· exact hkl); (· decide); (· exact hxa); (simp only [Act.put, List.setIfInBounds_toArray, List.set_cons_zero, List.set_cons_succ])) | ((with_reducible apply wpQ_neqFl); (· rfl); (· rfl); (· rfl); (· exact hq); (simp only [Act.put, List.setIfInBounds_toArray, List.set_cons_zero, List.set_cons_succ]))) | go_big_quiet_step (fail))
        refine wpQuiet_nil ?_
        clear H
        intro _ H
        go_wp2_with (go_skip)
        refine ⟨?_, ?_⟩
        · exact ⟨⟨k + 1, by go_num, by omega, H⟩⟩
        · simp [intOf]; omega
      · have hx := HM.out.2 k (by omega) hlt
        have HX := Lib.hid (show ∀ w', Heap W (Cel pb (browR (.slice (some ⟨g, o, none⟩) n c) m b) 96 :: OwnT 35 3 (.slice (some ⟨g, o, none⟩) c c) c xs :: l) w' → Rd w' (some ⟨g, o, none⟩) xs from fun w' h => h.ownRd (List.mem_cons_of_mem _ List.mem_cons_self))
        have hxa : ((xs.drop (k * 3)).take 3).toArray = b := by rw [hx]
        clear hx
        have hd1 : decide ((k : Int) < n) = false := by simp; omega
        have hd3 : decide (n ≤ k) = true := by simp; omega
        have hd4 : decide (k < n) = false := by simp; omega
        have hq := hb.neq
        go_wp2_with (go_skip)
        refine wp_region_H H (by kernel_rfl) (by kernel_rfl) ?_
        repeat (first | go_big_quiet_skip | (first | ((with_reducible apply wpQ_loadCH); (· exact cell_slFl); (· rfl); (· rfl); (· (repeat (first | (with_reducible exact List.mem_cons_self) | with_reducible apply List.mem_cons_of_mem))); (· exact browR_g0 ..); (simp only [Act.put, List.setIfInBounds_toArray, List.set_cons_zero, List.set_cons_succ])) | ((with_reducible apply wpQ_loadRH row_flow); (· rfl); (· rfl); (· (repeat (first | (with_reducible exact List.mem_cons_self) | with_reducible apply List.mem_cons_of_mem))); (· exact hb1); (· exact he1); (simp only [Act.put, List.setIfInBounds_toArray, List.set_cons_zero, List.set_cons_succ])) | ((with_reducible apply wpQ_loadRH row_flow); (· rfl); (· rfl); (· (repeat (first | (with_reducible exact List.mem_cons_self) | with_reducible apply List.mem_cons_of_mem))); (· exact hb2); (· exact he2); (simp only [Act.put, List.setIfInBounds_toArray, List.set_cons_zero, List.set_cons_succ])) | ((with_reducible apply wpQ_loadRdR row_flow); (· rfl); (· rfl); (· exact HX.out); (· rfl); (· exact hkl); (· decide); (· exact hxa); (simp only [Act.put, List.setIfInBounds_toArray, List.set_cons_zero, List.set_cons_succ])) | ((with_reducible apply wpQ_neqFl); (· rfl); (· rfl); (· rfl); (· exact hq); (simp only [Act.put, List.setIfInBounds_toArray, List.set_cons_zero, List.set_cons_succ]))) | go_big_quiet_step (fail))
        refine wpQuiet_nil ?_
        clear H
        intro _ H
        go_wp2_with (go_skip)
        refine ⟨?_, ?_⟩
        · exact ⟨⟨k + 1, by go_num, by omega, H⟩⟩
        · simp [intOf]; omega
    · obtain rfl : c = k := by omega
      go_wp2_with (go_skip)
      go_ret
      exact ⟨rfl, H.tail.shutFull hn HC.out HM.out⟩
/-- A page of such a list. -/
def pageFl (a : Option Addr) (n c : Nat) (m b : Array Value) : PageT := ⟨96, .agg (browR (.slice a n c) m b), FullT 35 3 a n c (fun _ => True), FullT 35 3 a n c (MarksR 3 m 0 n), FullT 35 3 a n c (fun xs => MarksR 3 m 0 n xs ∧ MarksR 3 b n c xs)⟩
theorem pageFl_ok (a : Option Addr) (n c : Nat) (m b : Array Value) (hm : GoodR 3 35 m) (hb : GoodR 3 35 b) : PageOk (pageFl a n c m b) :=
  ⟨⟨90, ⟨fun _ _ => by kernel_rfl, Try.call90⟩, fun W l w H => write_Fl a n c m b hm hb H⟩,
   ⟨91, ⟨fun _ _ => by kernel_rfl, Try.call91⟩, fun W l w H => behind_Fl a n c m b hm hb H⟩,
   ⟨89, ⟨fun _ _ => by kernel_rfl, Try.call89⟩, fun W l w H => stands_Fl a n c m b hm hb H⟩⟩
theorem lay_Fl (kb : Nat) (ps : List PageT) (a : Option Addr) (n c : Nat) {xs : List Value} (hp : ps.length < 120) (B : Book W (OwnT 35 3 (.slice a n c) n xs :: l) kb ps w) :
    Calls Try.prog 26 #[.pointer (some ⟨kb, 0, none⟩), .slice a n c] w fun e w' => e = .returned (.tuple #[]) ∧ ∃ p, Book W l kb (ps ++ [p]) w' := by
  obtain ⟨ba, bc, H, hok⟩ := B
  obtain ⟨N, hN⟩ : ∃ N, ps.length = N := ⟨_, rfl⟩
  rw [hN] at H
  have hn1 : N + 1 ≤ maxLen := by unfold maxLen; omega
  have hn2 : (N + 1) * 16 ≤ 140737488355328 := by omega
  have hNB := number_H (W := W) (l := BkT kb (.slice ba N bc) :: PgsT (.slice ba N bc) N (ps.map PageT.v) :: (ps.map PageT.t0 ++ OwnT 35 3 (.slice a n c) n xs :: l)) kb ba N bc (by omega) List.mem_cons_self
  have HO := Lib.hid (And.intro hok hN)
  have hN120 : N < 120 := by omega
  clear hok hN hp
  go_enter Try.func26, Try.ntmps26
  go_wp2_with (first
    | go_skip
    | ((with_reducible refine AnsH.call (by assumption) H ?_); clear H; intro _ H)
    | ((with_reducible show wpList _ _ _ (_ :: _) _ _); (with_reducible apply wpl_loadCH); (· exact cell_pages); (· rfl); (· rfl); (· exact H); (· (repeat (first | (with_reducible exact List.mem_cons_self) | with_reducible apply List.mem_cons_of_mem))); (· exact bookC_g _); (simp only [Act.put, List.setIfInBounds_toArray, List.set_cons_zero, List.set_cons_succ]))
    | ((with_reducible show wpList _ _ _ (_ :: _) _ _); (with_reducible apply wpl_bsOnes _ [(pageFl a n c (mkN ((N : Int) + 1)) (mkM ((N : Int) + 1))).v]); (· rfl); (· rfl); (· rfl); (· decide); (· decide); (· intro v hv; rw [List.mem_singleton.1 hv]; rfl); (· exact bs_page); (· rfl); (· exact H); (clear H; intro pk _ H); (simp only [Act.put, List.setIfInBounds_toArray, List.set_cons_zero, List.set_cons_succ]))
    | ((with_reducible show wpList _ _ _ (_ :: _) _ _); (with_reducible apply wpl_appendH slPage); (· rfl); (· rfl); (· rfl); (· rfl); (· exact H.top2 (.there (.there .here)) .here); (· exact H.celRd List.mem_cons_self); (· rfl); (· intro u hu; rw [List.mem_singleton.1 hu]; rfl); (· exact hn1); (· exact hn2); (clear H; intro v2 _ H; obtain ⟨a2, c2, rfl, _, _⟩ := RowT.form0 (H.ok _ List.mem_cons_self)); (simp only [Act.put, List.setIfInBounds_toArray, List.set_cons_zero, List.set_cons_succ]))
    | ((with_reducible show wpList _ _ _ (_ :: _) _ _); (with_reducible apply wpl_storeSH); (· exact cell_pages); (· rfl); (· rfl); (· rfl); (· exact H); (· (repeat (first | (with_reducible exact List.mem_cons_self) | with_reducible apply List.mem_cons_of_mem))); (· exact Nat.le_refl 1); (· rfl); (· (repeat (first | (with_reducible exact Repl.here) | with_reducible apply Repl.there))); (clear H; intro _ H); (simp only [Act.put, List.setIfInBounds_toArray, List.set_cons_zero, List.set_cons_succ])))
  go_end0
  refine ⟨rfl, pageFl a n c (mkN ((N : Int) + 1)) (mkM ((N : Int) + 1)), a2, c2, ?_, fun p hp => ?_⟩
  · rw [List.length_append, List.length_singleton, HO.out.2, List.map_append, List.map_append]
    have H2 := H.drop (.there .here)
    have p1 : (RowT 98 1 (.slice a2 (N + 1) c2) (N + 1) (ps.map PageT.v ++ [(pageFl a n c (mkN ((N : Int) + 1)) (mkM ((N : Int) + 1))).v]) :: BkT kb (.slice a2 (N + 1) c2) :: (ps.map PageT.t0 ++ OwnT 35 3 (.slice a n c) n xs :: l)).Perm
        (OwnT 35 3 (.slice a n c) n xs :: BkT kb (.slice a2 (N + 1) c2) :: PgsT (.slice a2 (N + 1) c2) (N + 1) (ps.map PageT.v ++ [(pageFl a n c (mkN ((N : Int) + 1)) (mkM ((N : Int) + 1))).v]) :: (ps.map PageT.t0 ++ l)) :=
      (List.Perm.swap _ _ _).trans (((List.Perm.cons _ (List.Perm.cons _ List.perm_middle)).trans (List.Perm.cons _ (.swap _ _ _))).trans (.swap _ _ _))
    have H3 := (H2.perm p1).toFull
    refine H3.perm ?_
    exact (List.Perm.swap _ _ _).trans (List.Perm.cons _ ((List.Perm.swap _ _ _).trans (List.Perm.cons _ (by rw [List.append_assoc]; exact List.perm_middle.symm))))
  · rcases List.mem_append.1 hp with h | h
    · exact HO.out.1 p h
    · rw [List.mem_singleton.1 h]; exact pageFl_ok _ _ _ _ _ (mkN_good _) (mkM_good _)
end
end Go.Proofs.Ytglehneaphigdaa

/- What GraphsPlay needs of the graph's functions, each in one form. -/
namespace Go.Proofs.Ytglehneaphigdaa
open Go.RowKit
set_option linter.unusedSimpArgs false
set_option linter.unusedVariables false
theorem rowE_congr {c d : Caps} {a : Nat} : ∀ k, (∀ b, b < k → c a b = d a b) → rowE c a k = rowE d a k
  | 0, _ => rfl
  | k + 1, h => by rw [rowE, rowE, rowE_congr k (fun b hb => h b (by omega)), h k (by omega)]
theorem matE_congr {c d : Caps} : ∀ k, (∀ a b, a < k → b < 17 → c a b = d a b) → matE c k = matE d k
  | 0, _ => rfl
  | k + 1, h => by rw [matE, matE, matE_congr k (fun a b ha hb => h a b (by omega) hb), rowE_congr 17 (fun b hb => h k b (by omega) hb)]
theorem same_edges {c d : Caps} (hc : GoodC c) (hd : GoodC d) : matSame c d = decide (edgesOf c = edgesOf d) := by
  rw [Bool.eq_iff_iff, matSame_iff, decide_eq_true_eq]
  constructor
  · exact fun h => matE_congr 17 h
  · intro h a b _ _
    rw [← hc.cap, ← hd.cap, h]
section
variable {W w : World} {l : List Thing} {p : Nat}
theorem gpush_H {c : Caps} (a b : Nat) (n : Int) (ha : a ≤ 255) (hb : b ≤ 255) (hc : PlayC c) (H : Heap W (Gr p c :: l) w) :
    Calls Try.prog 19 #[.pointer (some ⟨p, 0, none⟩), .int .u8 (a : Int), .int .u8 (b : Int), .int .i64 n] w fun e w' => e = .returned (.int .i64 (pushR c a b n)) ∧ Heap W (Gr p (pushT c a b n) :: l) w' := by
  by_cases h1 : n < 1
  · rw [show pushR c a b n = 1 by simp [pushR, h1], show pushT c a b n = c by simp [pushT, h1]]
    exact push_arg a b n List.mem_cons_self h1 w H
  · by_cases h2 : c a b < n
    · rw [show pushR c a b n = 11 by simp [pushR, h1, h2], show pushT c a b n = c by simp [pushT, h2]]
      exact push_route a b n ha hb List.mem_cons_self (by omega) (by rw [hc.good.capOf]; exact h2) w H
    · rw [show pushR c a b n = 0 by simp [pushR, h1, h2], show pushT c a b n = pushC c a b n by simp [pushT, h1, h2]]
      have hm := hc.good.may a b (by omega)
      have m1 := mayP_true hm.1
      have m2 := mayP_true hm.2
      have hne := hc.ne (show 1 ≤ n by omega) (show n ≤ c a b by omega)
      have hu : upd2 c a b (c a b - n) b a = c b a := by unfold upd2; rw [if_neg (fun e => hne e.1.symm)]
      have hs := hc.sum a b
      have hge := hc.good.ge b a
      exact push_ok a b n m1.1 m1.2 m2.1 m2.2 H (by omega) (by omega) (hc.bnd a b) (by omega) (by omega)
theorem gedges_H {c : Caps} (H : Heap W l w) (h : Gr p c ∈ l) : Calls Try.prog 24 #[.pointer (some ⟨p, 0, none⟩)] w fun e w' => ∃ a cc, e = .returned (.slice a (edgesOf c).length (edgesOf c).length) ∧ Heap W (FlT (.slice a (edgesOf c).length cc) (edgesOf c).length (edgesOf c) :: l) w' := by
  refine (edges_H H h).mono ?_
  rintro e w' (⟨h0, rfl, H⟩ | ⟨_, g, cc, rfl, _, H⟩)
  · refine ⟨none, 0, by rw [h0], ?_⟩
    have := H.nilRow 35 3
    rw [h0, List.eq_nil_of_length_eq_zero h0]
    exact this
  · exact ⟨_, _, rfl, H⟩
theorem Book.edges {c : Caps} {kb : Nat} {ps : List PageT} (B : Book W l kb ps w) (h : Gr p c ∈ l) : Calls Try.prog 24 #[.pointer (some ⟨p, 0, none⟩)] w fun e w' => ∃ a, e = .returned (.slice a (edgesOf c).length (edgesOf c).length) ∧ Book W (OwnT 35 3 (.slice a (edgesOf c).length (edgesOf c).length) (edgesOf c).length (flwL (edgesOf c)) :: l) kb ps w' := by
  obtain ⟨a, cc, H, hok⟩ := B
  refine (gedges_H H (List.mem_cons_of_mem _ (List.mem_cons_of_mem _ (List.mem_append_right _ h)))).mono ?_
  rintro e w' ⟨ea, ec, rfl, H⟩
  refine ⟨ea, rfl, a, cc, ?_, hok⟩
  refine (H.slide.clipOwn).perm ?_
  exact (List.Perm.swap _ _ _).trans (List.Perm.cons _ ((List.Perm.swap _ _ _).trans (List.Perm.cons _ List.perm_middle.symm)))
end
end Go.Proofs.Ytglehneaphigdaa
