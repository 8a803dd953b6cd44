/- Offers in lists: rows; two lists with the same content are the same. -/
import Derived.Test.YtacglcpjbepfnaaBok1
import Derived.Test.YtacglcpjbepfnaaAppend
import Derived.Test.YtacglcpjbepfnaaHeapEarly
import Derived.Laws.StructEq
namespace Go.Proofs.Ytacglcpjbepfnaa
open Go.RowKit
set_option linter.unusedSimpArgs false
set_option linter.unusedVariables false
def ofrV (r : Ofr) : List Value := [.int .u64 r.sq, .int .u8 r.ow, .int .u8 r.se, .int .u8 r.bu, .int .i64 r.le, .int .i64 r.nu, .int .i64 r.de]
def ofrA (r : Ofr) : Array Value := (ofrV r).toArray
def ofrL (L : List Ofr) : List Value := L.flatMap ofrV
theorem ofrL_len (L : List Ofr) : (ofrL L).length = L.length * 7 := by
  unfold ofrL
  induction L with
  | nil => rfl
  | cons x L ih => rw [List.flatMap_cons, List.length_append, ih, List.length_cons]; simp [ofrV]; omega
theorem ofrL_at (L : List Ofr) (i : Nat) (h : i < L.length) : ((ofrL L).drop (i * 7)).take 7 = ofrV L[i] := by
  unfold ofrL
  induction L generalizing i with
  | nil => simp at h
  | cons x L ih =>
    rw [List.flatMap_cons]
    cases i with
    | zero => simp [ofrV]
    | succ i =>
      rw [show (i + 1) * 7 = (ofrV x).length + i * 7 by simp [ofrV]; omega, ← List.drop_drop, List.drop_left]
      simpa using ih i (by simpa using h)
theorem ofrL_ones (L : List Ofr) : OneCells (ofrL L) := fun u hu => by
  unfold ofrL at hu
  rw [List.mem_flatMap] at hu
  obtain ⟨x, _, hx⟩ := hu
  simp only [ofrV, List.mem_cons, List.not_mem_nil, or_false] at hx
  rcases hx with rfl | rfl | rfl | rfl | rfl | rfl | rfl <;> rfl
theorem ofrA_sz (r : Ofr) : (ofrA r).size = 7 := rfl
theorem ofrA_all (r : Ofr) : (ofrA r).extract 0 (0 + 7) = ofrA r := by simp [ofrA, ofrV]
theorem ofrL_get (L : List Ofr) (i : Nat) (h : i < L.length) : (((ofrL L).drop (i * 7)).take 7).toArray = ofrA L[i] := by rw [ofrL_at L i h]; rfl
theorem row_ofr : RowTy 83 7 (ofrA ⟨0, 0, 0, 0, 0, 0, 0⟩) := ⟨⟨_, Try.underlying83, rfl⟩, by kernel_rfl, by kernel_rfl⟩
theorem eqO_run (d : Nat) (r : Ofr) (w : World) : (Op.equalIn (d + 3) 83 (.agg (ofrA r)) (.agg (ofrA r))).run Try.prog w = .ok true w := by
  unfold ofrA ofrV
  rw [run_equalIn_struct w (d + 2) 83 _ _ (by kernel_rfl) (by kernel_rfl)]
  have hu0 := Try.underlying79
  have hu1 := Try.underlying23
  have hu2 := Try.underlying24
  have hu3 := Try.underlying2
  have hu4 := Try.underlying81
  simp [go_sem, Try.underlying83, hu0, hu1, hu2, hu3, hu4]
theorem neqO_run (r : Ofr) (w : World) : (binOp .neq 83 (.agg (ofrA r)) (.agg (ofrA r))).run Try.prog w = .ok (.bool false) w := by
  have h : (Op.equal 83 (.agg (ofrA r)) (.agg (ofrA r))).run Try.prog w = .ok true w := eqO_run 9997 r w
  simp only [binOp]
  simp [Sem.run_bind, h]
theorem eqlO_run (r : Ofr) (w : World) : (binOp .eql 83 (.agg (ofrA r)) (.agg (ofrA r))).run Try.prog w = .ok (.bool true) w := by
  have h : (Op.equal 83 (.agg (ofrA r)) (.agg (ofrA r))).run Try.prog w = .ok true w := eqO_run 9997 r w
  simp only [binOp]
  simp [Sem.run_bind, h]
section
variable {W w : World} {l : List Thing} {ops : Array Oper} {rest : List Oper} {a : Act}
theorem wpQ_neqO {dst : Option Tmp} {ty : TypeId} {pos : String} {after : Array Edge} {guard : Option (Nat × Bool)} {p q : Operand} {r : Ofr} {K : Act → Prop} {H : Heap W l w} (hw : Region.wanted ⟨dst, .binOp .neq 83 p q 83, ty, pos, after, guard⟩ (yielded ops a.tmps) = true) (hp : a.eval p = .agg (ofrA r)) (hq : a.eval q = .agg (ofrA r))
    (h : wpQuiet Try.prog ops (fun w' => ∃ d, w' = H.any d) K rest (a.put dst (.bool false))) : wpQuiet Try.prog ops (fun w' => ∃ d, w' = H.any d) K (⟨dst, .binOp .neq 83 p q 83, ty, pos, after, guard⟩ :: rest) a := by
  have hg : (Try.prog.eqGuardType Try.prog.depth 83) = false := by kernel_rfl
  refine BigFrame.wpQuiet_want hw fun K hK => ⟨_, ?_, hK _ h⟩
  rintro _ ⟨d, rfl⟩
  unfold Oper.quietAt execOp
  simp only [hp, hq, Sem.run_bind, neqO_run]
  simp [eqGuard, hg, neqO_run]
  exact ⟨rfl, rfl⟩
theorem wpQ_eqlO {dst : Option Tmp} {ty : TypeId} {pos : String} {after : Array Edge} {guard : Option (Nat × Bool)} {p q : Operand} {r : Ofr} {K : Act → Prop} {H : Heap W l w} (hw : Region.wanted ⟨dst, .binOp .eql 83 p q 83, ty, pos, after, guard⟩ (yielded ops a.tmps) = true) (hp : a.eval p = .agg (ofrA r)) (hq : a.eval q = .agg (ofrA r))
    (h : wpQuiet Try.prog ops (fun w' => ∃ d, w' = H.any d) K rest (a.put dst (.bool true))) : wpQuiet Try.prog ops (fun w' => ∃ d, w' = H.any d) K (⟨dst, .binOp .eql 83 p q 83, ty, pos, after, guard⟩ :: rest) a := by
  have hg : (Try.prog.eqGuardType Try.prog.depth 83) = false := by kernel_rfl
  refine BigFrame.wpQuiet_want hw fun K hK => ⟨_, ?_, hK _ h⟩
  rintro _ ⟨d, rfl⟩
  unfold Oper.quietAt execOp
  simp only [hp, hq, Sem.run_bind, eqlO_run]
  simp [eqGuard, hg, eqlO_run]
  exact ⟨rfl, rfl⟩
end
structure SameOL (W : World) (l : List Thing) (n : Nat) (vi : Value) (wr : World) : Prop where
  out : ∃ k : Nat, k ≤ n ∧ vi = .int .i64 (k : Int) ∧ Heap W l wr
section
variable {W w : World} {l : List Thing}
set_option maxRecDepth 100000
set_option maxHeartbeats 2000000
/-- Two lists with the same content are the same. -/
theorem sameO_P {L : List Ofr} (a b : Option Addr) (n c d : Nat) (hA : L.length = n) (hn : n ≤ 1000000) (RA : ∀ w', Heap W l w' → Rd w' a (ofrL L)) (RB : ∀ w', Heap W l w' → Rd w' b (ofrL L)) :
    AnsH W l 115 #[.slice a n c, .slice b n d] (.bool true) := by
  intro w H
  have HA := Lib.hid hA
  have HRA := Lib.hid RA
  have HRB := Lib.hid RB
  clear hA RA RB
  go_enter Try.func115, Try.ntmps115
  go_wp2_with (go_skip)
  have H0 := H
  clear H
  go_loopw [5] (fun vi wr => SameOL W l n vi wr) (fun vi _ => n - (intOf vi).toNat)
  case atStart => exact ⟨0, Nat.zero_le _, rfl, H0⟩
  case round =>
    obtain ⟨k, hk, rfl, H'⟩ := hrel.out
    clear H0 hrel
    have H := H'
    clear H'
    by_cases hlt : k < n
    · have hkA : k < L.length := by rw [HA.out]; exact hlt
      have ra := ofrL_get L k hkA
      have hlA : k * 7 + 7 ≤ (ofrL L).length := by rw [ofrL_len]; omega
      generalize L[k] = x at *
      obtain ⟨ba, oa, rfl, _⟩ := (HRA.out _ H).lt (by omega)
      obtain ⟨bb, ob, rfl, _⟩ := (HRB.out _ H).lt (by omega)
      go_wp2_with (go_skip)
      refine wp_region_H H (by kernel_rfl) (by kernel_rfl) ?_
      repeat (first | go_big_quiet_skip | (first | ((with_reducible apply wpQ_loadRdR row_ofr); (· rfl); (· rfl); (· exact HRA.out); (· rfl); (· exact hlA); (· decide); (· exact ra); (simp only [Act.put, List.setIfInBounds_toArray, List.set_cons_zero, List.set_cons_succ])) | ((with_reducible apply wpQ_loadRdR row_ofr); (· rfl); (· rfl); (· exact HRB.out); (· rfl); (· exact hlA); (· decide); (· exact ra); (simp only [Act.put, List.setIfInBounds_toArray, List.set_cons_zero, List.set_cons_succ])) | ((with_reducible apply wpQ_neqO); (· rfl); (· rfl); (· rfl); (simp only [Act.put, List.setIfInBounds_toArray, List.set_cons_zero, List.set_cons_succ]))) | go_big_quiet_step (fail))
      refine wpQuiet_nil ?_
      clear H
      intro _ H
      go_wp2_with (go_skip)
      refine ⟨⟨k + 1, by omega, by go_num, H⟩, ?measure⟩
      case measure => simp [intOf]; omega
    · obtain rfl : k = n := by omega
      go_wp2_with (go_skip)
      go_ret
      exact ⟨rfl, H⟩
end
end Go.Proofs.Ytacglcpjbepfnaa
