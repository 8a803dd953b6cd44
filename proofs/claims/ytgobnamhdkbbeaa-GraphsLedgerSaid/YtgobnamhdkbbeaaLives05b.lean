/- countinghouselaw05.lives. -/
import Derived.Test.YtgobnamhdkbbeaaGraph4
namespace Go.Proofs.Ytgobnamhdkbbeaa
open Go.RowKit
set_option linter.unusedSimpArgs false
set_option linter.unusedVariables false
section
variable {ops : Array Oper} {rest : List Oper} {a : Act} {w W : World} {l : List Thing} {Q : Exit → Act → World → Prop}
theorem wpl_loadRdR0 {T n : Nat} {z : Array Value} {dst : Option Tmp} {ty : TypeId} {pos : String} {after : Array Edge} {guard : Option (Nat × Bool)} {x : Operand} {b o : Nat} (RT : RowTy T n z) (hw : Region.wanted ⟨dst, .load T x, ty, pos, after, guard⟩ (yielded ops a.tmps) = true) (hx : a.eval x = .pointer (some ⟨b, o, none⟩))
    {xs : List Value} {c1 : Array Value} (R : Rd w (some ⟨b, o, none⟩) xs) (hn : 0 + n ≤ xs.length) (h0 : 0 < n) (hv : ((xs.drop 0).take n).toArray = c1) (h : wpList Try.prog ops Q rest (a.put dst (.agg c1)) w) : wpList Try.prog ops Q (⟨dst, .load T x, ty, pos, after, guard⟩ :: rest) a w :=
  wpl_loadRdR RT hw hx R rfl hn h0 hv h
end
section
variable {W w : World} {l : List Thing}
set_option maxRecDepth 100000
set_option maxHeartbeats 1000000
def lc0 : Caps := upd2 (upd2 zeroC 1 2 5) 2 1 1
def lc1 : Caps := pushC lc0 1 2 3
def lc2 : Caps := pushC lc1 2 1 4
theorem lc2_edges : edgesOf lc2 = [⟨1, 2, 6⟩] := by kernel_rfl
theorem lc_row : (((flwL [⟨1, 2, 6⟩]).drop 0).take 3).toArray = #[.int .u8 1, .int .u8 2, .int .i64 6] := rfl
theorem flw2 : ([.int .u8 1, .int .u8 2, .int .i64 5, .int .u8 2, .int .u8 1, .int .i64 1] : List Value) = flwL [⟨1, 2, 5⟩, ⟨2, 1, 1⟩] := rfl
theorem lives05_H (H : Heap W l w) : Calls Try.prog 12 #[] w fun e w' => e = .returned (.bool true) ∧ Heap W l w' := by
  go_enter Try.func12, Try.ntmps12
  go_wp2_with fail
  have C := new_H (some ⟨w.heap.size, 0, none⟩) 2 2 [⟨1, 2, 5⟩, ⟨2, 1, 1⟩] rfl (by omega) (by simp [FlwOk]) (fun w' H' => H'.celRd List.mem_cons_self) (H.alloc #[.int .u8 1, .int .u8 2, .int .i64 5, .int .u8 2, .int .u8 1, .int .i64 1] 32)
  clear H
  refine C.mono ?_
  clear C
  rw [show newG [⟨1, 2, 5⟩, ⟨2, 1, 1⟩] = some lc0 from rfl]
  rintro e w1 ⟨p, rfl, H⟩
  replace H := H.drop (.there .here)
  go_wp2_with fail
  have C := push_ok (p := p) (c := lc0) 1 2 3 (by decide) (by decide) (by decide) (by decide) H (by decide) (by decide) (by decide) (by decide) (by decide)
  clear H
  refine C.mono ?_
  clear C
  rintro e w1 ⟨rfl, H⟩
  go_wp2_with fail
  rw [show pushC lc0 1 2 3 = lc1 from rfl] at H
  have C := cap_H (W := W) (l := Gr p lc1 :: l) (p := p) (c := lc1) 1 2 (by decide) (by decide) List.mem_cons_self _ H
  clear H
  refine C.mono ?_
  clear C
  rintro e w1 ⟨rfl, H⟩
  rw [show capOf lc1 1 2 = 2 by decide]
  go_wp2_with fail
  have C := cap_H (W := W) (l := Gr p lc1 :: l) (p := p) (c := lc1) 2 1 (by decide) (by decide) List.mem_cons_self _ H
  clear H
  refine C.mono ?_
  clear C
  rintro e w1 ⟨rfl, H⟩
  rw [show capOf lc1 2 1 = 4 by decide]
  go_wp2_with fail
  have C := push_route (W := W) (l := Gr p lc1 :: l) (p := p) (c := lc1) 1 2 3 (by decide) (by decide) List.mem_cons_self (by decide) (by decide) _ H
  clear H
  refine C.mono ?_
  clear C
  rintro e w1 ⟨rfl, H⟩
  go_wp2_with fail
  have C := push_ok (p := p) (c := lc1) 2 1 4 (by decide) (by decide) (by decide) (by decide) H (by decide) (by decide) (by decide) (by decide) (by decide)
  clear H
  refine C.mono ?_
  clear C
  rintro e w1 ⟨rfl, H⟩
  go_wp2_with fail
  rw [show pushC lc1 2 1 4 = lc2 from rfl] at H
  have C := edges_H H List.mem_cons_self
  clear H
  refine C.mono ?_
  clear C
  rintro e w1 hP
  rw [lc2_edges] at hP
  rcases hP with ⟨h0, _⟩ | ⟨_, g, cc, rfl, _, H⟩
  · cases h0
  have HR := Lib.hid (H.slRd List.mem_cons_self)
  go_wp2_with (first
    | go_skip
    | ((with_reducible show wpList _ _ _ (_ :: _) _ _); (with_reducible apply wpl_loadRdR0 row_flow); (· rfl); (· rfl); (· exact HR.out); (· decide); (· decide); (· exact lc_row); (simp only [Act.put, List.setIfInBounds_toArray, List.set_cons_zero, List.set_cons_succ])))
  go_ret
  exact ⟨rfl, H.tail.tail⟩
end
end Go.Proofs.Ytgobnamhdkbbeaa
