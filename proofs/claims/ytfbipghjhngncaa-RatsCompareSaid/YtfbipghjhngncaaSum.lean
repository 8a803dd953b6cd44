/- exacts.Sum: the sum of numbers, in 128 bits. -/
import Derived.Test.YtfbipghjhngncaaExacts
import Derived.Test.YtfbipghjhngncaaBase
import Derived.Outline
import Derived.Lib.SmallJoins
import Derived.Laws.Rows
namespace Go.Proofs.Ytfbipghjhngncaa
open Go.RowKit

theorem add64_run (x y c : Nat) (hx : x < 18446744073709551616) (hy : y < 18446744073709551616) (hc : c ≤ 1) (w : World) :
    (callFunc 65 #[.int .u64 x, .int .u64 y, .int .u64 c]).run Try.prog w =
      .ok (.value (.tuple #[.int .u64 (((x + y + c) % 18446744073709551616 : Nat) : Int), .int .u64 (((x + y + c) / 18446744073709551616 : Nat) : Int)])) w := by
  rw [run_callFunc_extern Try.func65 (by kernel_rfl) (by kernel_rfl) (by kernel_rfl) (e := add64Entry) (by kernel_rfl), run_add64 x y c (by omega) (by omega) (by omega) (by omega)]
  simp only [Result.andThen]
  congr 5 <;> omega

def wideV (h l : Nat) : Value := .agg #[.int .u64 h, .int .u64 l]
/-- A sum in 128 bits: what it stands for. -/
def WideIs (h l : Nat) (s : Int) : Prop := h < 18446744073709551616 ∧ l < 18446744073709551616 ∧ ((h : Int) * 18446744073709551616 + l - s) % 340282366920938463463374607431768211456 = 0

set_option maxHeartbeats 1000000 in
theorem plus_any (h l : Nat) (s n : Int) (w : World) (hw : WideIs h l s) (n0 : -9223372036854775808 ≤ n) (n1 : n ≤ 9223372036854775807) :
    Calls Try.prog 52 #[wideV h l, .int .i64 n] w fun e w' => ∃ h' l', e = .returned (wideV h' l') ∧ WideIs h' l' (s + n) ∧ Below w.heap.size w w' := by
  obtain ⟨hh, hl, hm⟩ := hw
  obtain ⟨N, hN⟩ : ∃ N : Nat, N = (n % 18446744073709551616).toNat := ⟨_, rfl⟩
  have hN1 : N < 18446744073709551616 := by omega
  have e1 : IntKind.u64.wrap n = (N : Int) := by rw [IntKind.wrap_u64]; omega
  obtain ⟨S, hS⟩ : ∃ S : Nat, S = ((n / 9223372036854775808) % 18446744073709551616).toNat := ⟨_, rfl⟩
  have hS1 : S < 18446744073709551616 := by omega
  have e2 : IntKind.u64.wrap (n / 9223372036854775808) = (S : Int) := by rw [IntKind.wrap_u64]; omega
  have ha : ∀ w, (callFunc 65 #[.int .u64 l, .int .u64 N, .int .u64 0]).run Try.prog w = _ := fun w => add64_run l N 0 hl hN1 (by omega) w
  obtain ⟨c, hc⟩ : ∃ c, c = (l + N + 0) / 18446744073709551616 := ⟨_, rfl⟩
  obtain ⟨l', hl'⟩ : ∃ c, c = (l + N + 0) % 18446744073709551616 := ⟨_, rfl⟩
  have hc1 : c ≤ 1 := by omega
  have hb := fun w => add64_run h S c hh hS1 hc1 w
  obtain ⟨c2, hc2⟩ : ∃ c2, c2 = (h + S + c) / 18446744073709551616 := ⟨_, rfl⟩
  obtain ⟨h', hh'⟩ : ∃ c2, c2 = (h + S + c) % 18446744073709551616 := ⟨_, rfl⟩
  rw [← hc, ← hl'] at ha
  rw [← hc2, ← hh'] at hb
  have hres : WideIs h' l' (s + n) := by
    refine ⟨by omega, by omega, ?_⟩
    omega
  have HA := Lib.hid ha
  have HB := Lib.hid hb
  have HR := Lib.hid hres
  clear ha hb hm hN hS hc hl' hc2 hh' hres
  unfold wideV
  go_enter Try.func52, Try.ntmps52
  go_wp2_with (first | rw [HA.out] | rw [HB.out])
  go_returns
  exact ⟨h', l', rfl, HR.out, by go_grown⟩

def sumTo (xs : List Int) : Int := xs.foldl (· + ·) 0
theorem sumTo_snoc (xs : List Int) (k : Nat) (hk : k < xs.length) : sumTo (xs.take (k + 1)) = sumTo (xs.take k) + xs[k] := by
  rw [List.take_add_one, List.getElem?_eq_getElem hk, Option.toList_some]
  unfold sumTo
  rw [List.foldl_append]
  rfl
def In64 (xs : List Int) : Prop := ∀ x ∈ xs, -9223372036854775808 ≤ x ∧ x ≤ 9223372036854775807
def I64s (xs : List Int) : List Value := xs.map (fun x => .int .i64 x)
theorem sumTo_bound (xs : List Int) (h : In64 xs) (k : Nat) (hk : k ≤ xs.length) : -(k * 9223372036854775808 : Int) ≤ sumTo (xs.take k) ∧ sumTo (xs.take k) ≤ k * 9223372036854775807 := by
  induction k with
  | zero => simp [sumTo]
  | succ k ih =>
    have := ih (by omega)
    rw [sumTo_snoc xs k (by omega)]
    have := h xs[k] (List.getElem_mem _)
    omega
/-- The 128 bits tell the number, if it is one of 64 bits. -/
theorem wide_num {h l : Nat} {s : Int} (hw : WideIs h l s) (hs : -170141183460469231731687303715884105728 ≤ s ∧ s < 170141183460469231731687303715884105728) :
    (if (h : Int) = IntKind.u64.wrap (IntKind.i64.wrap l / 9223372036854775808) then (IntKind.i64.wrap l = num64 s ∧ err64 s = 0) else (num64 s = 0 ∧ err64 s = 10)) := by
  obtain ⟨hh, hl, hm⟩ := hw
  have e : IntKind.i64.wrap l = if l < 9223372036854775808 then (l : Int) else l - 18446744073709551616 := by
    rw [IntKind.wrap_i64]; split <;> omega
  rw [e]
  by_cases hc : l < 9223372036854775808
  · rw [if_pos hc, show (l : Int) / 9223372036854775808 = 0 by omega, show IntKind.u64.wrap 0 = 0 by rfl]
    split
    · rename_i h0
      have : s = l := by omega
      rw [(num64_in (n := s) (by omega) (by omega)).1, (num64_in (n := s) (by omega) (by omega)).2]
      exact ⟨this.symm, rfl⟩
    · rename_i h0
      exact num64_out (by omega)
  · rw [if_neg hc, show ((l : Int) - 18446744073709551616) / 9223372036854775808 = -1 by omega, show IntKind.u64.wrap (-1) = 18446744073709551615 by rfl]
    split
    · rename_i h0
      have : s = l - 18446744073709551616 := by omega
      rw [(num64_in (n := s) (by omega) (by omega)).1, (num64_in (n := s) (by omega) (by omega)).2]
      exact ⟨this.symm, rfl⟩
    · rename_i h0
      exact num64_out (by omega)
theorem cell_of {w : World} {b : Nat} {cs : Array Value} {e : TypeId} {fz : Nat × Nat} (h : w.heap[b]? = some (.cells cs e fz)) (i : Nat) (v : Value) (hi : cs[i]? = some v) : w.cell? ⟨b, i, none⟩ = some v := by
  simp [World.cell?, h, hi]
set_option maxHeartbeats 1000000 in
theorem sum_any (a : Option Addr) (n c : Nat) (xs : List Int) (w : World) (hn : n = xs.length) (hl : n ≤ maxLen) (hx : Rd w a (I64s xs)) (hi : In64 xs) :
    Calls Try.prog 23 #[.slice a n c] w fun e w' => e = .returned (pairV (num64 (sumTo xs)) (err64 (sumTo xs))) ∧ Below w.heap.size w w' := by
  subst hn
  have hb := sumTo_bound xs hi xs.length (Nat.le_refl _)
  rw [List.take_length] at hb
  simp only [maxLen] at hl
  have HX := Lib.hid hx
  have HI := Lib.hid hi
  have HB := Lib.hid hb
  clear hx hi hb
  go_enter Try.func23, Try.ntmps23
  go_wp2_with fail
  go_loopw [10] (fun i wr => ∃ k h l : Nat, k ≤ xs.length ∧ i = .int .i64 k ∧ WideIs h l (sumTo (xs.take k)) ∧ wr.heap[w.heap.size]? = some (.cells #[.int .u64 h, .int .u64 l] 64 (0, 0)) ∧ Below w.heap.size w wr) (fun i _ => xs.length - (intOf i).toNat)
  case atStart => exact ⟨0, 0, 0, Nat.zero_le _, rfl, ⟨by omega, by omega, by simp [sumTo]⟩, heap_alloc_new w _, by go_grown⟩
  case round =>
    obtain ⟨k, h, l, hk, rfl, hwi, hbk, hbl⟩ := hrel
    have HW := Lib.hid hwi
    have HBL := Lib.hid hbl
    clear hwi hbl
    by_cases hlt : k < xs.length
    · obtain ⟨b, o, rfl, hcell⟩ := (HX.out.below HBL.out) k (by simpa [I64s] using hlt)
      simp only [List.getElem_map, I64s] at hcell
      have hxi := HI.out xs[k] (List.getElem_mem _)
      have HS := Lib.hid (sumTo_snoc xs k hlt)
      obtain ⟨x, hx⟩ : ∃ x, xs[k] = x := ⟨_, rfl⟩
      rw [hx] at hcell hxi HS
      clear hx
      have hc0 := cell_of hbk 0 (.int .u64 h) rfl
      have hc1 := cell_of hbk 1 (.int .u64 l) rfl
      have HBK := Lib.hid hbk
      clear hbk
      go_wp2_with fail
      refine (plus_any h l (sumTo (xs.take k)) x wr HW.out hxi.1 hxi.2).mono ?_
      rintro e w2 ⟨h2, l2, rfl, hw2, hbl2⟩
      have hlt2 : w.heap.size < wr.heap.size := (Array.getElem?_eq_some_iff.1 HBK.out).1
      have hbk2 : w2.heap[w.heap.size]? = some (.cells #[.int .u64 h, .int .u64 l] 64 (0, 0)) := by rw [← HBK.out]; exact hbl2.block _ hlt2
      have hd0 := cell_of hbk2 0 (.int .u64 h) rfl
      have hd1 := cell_of hbk2 1 (.int .u64 l) rfl
      have hf0 := frozen_of_row w2 _ 0 _ _ hbk2
      have hf1 := frozen_of_row w2 _ 1 _ _ hbk2
      have HBK2 := Lib.hid hbk2
      have HW2 := Lib.hid hw2
      have HBL2 := Lib.hid hbl2
      clear hw2 hbl2 hbk2
      unfold wideV
      go_wp2_with fail
      go_roundw
      case rel => exact ⟨k + 1, h2, l2, by omega, by go_num, by rw [HS.out]; exact HW2.out, Joins.block_setCell (Joins.block_setCell HBK2.out _) _, ((HBL.out.trans (HBL2.out.mono (by have := HBL.out.size; omega))).setCell (Nat.le_refl _) _).setCell (Nat.le_refl _) _⟩
      case measure => simp [intOf]; omega
    · obtain rfl : k = xs.length := by omega
      have hc0 := cell_of hbk 0 (.int .u64 h) rfl
      have hc1 := cell_of hbk 1 (.int .u64 l) rfl
      have hw := HW.out
      rw [List.take_length] at hw
      have hnum := wide_num hw (by have := HB.out; omega)
      obtain ⟨z, hz⟩ : ∃ z, IntKind.i64.wrap (l : Int) = z := ⟨_, rfl⟩
      obtain ⟨u, hu⟩ : ∃ u, IntKind.u64.wrap (z / 9223372036854775808) = u := ⟨_, rfl⟩
      have hz0 : -9223372036854775808 ≤ z ∧ z ≤ 9223372036854775807 := by rw [← hz, IntKind.wrap_i64]; omega
      obtain ⟨hz0, hz1⟩ := hz0
      rw [hz, hu] at hnum
      clear hw hbk
      by_cases heq : (h : Int) = u
      · rw [if_pos heq] at hnum
        have hd : ((h : Int) == u) = true := by simpa using heq
        have HN := Lib.hid hnum
        clear hnum heq
        go_wp2_with fail
        go_ret2
        rw [← HN.out.1, HN.out.2]
        exact ⟨rfl, HBL.out⟩
      · rw [if_neg heq] at hnum
        have hd : ((h : Int) == u) = false := by simpa using heq
        have HN := Lib.hid hnum
        clear hnum heq
        go_wp2_with fail
        go_ret2
        rw [HN.out.1, HN.out.2]
        exact ⟨rfl, HBL.out⟩
end Go.Proofs.Ytfbipghjhngncaa
