/- Whole numbers that are built out of a sign and bits. -/
import Derived.Test.YtfbipghjhngncaaRef01a
namespace Go.Proofs.Ytfbipghjhngncaa
open Go.RowKit
set_option linter.unusedSimpArgs false
set_option linter.unusedVariables false

theorem bitsA_zero : bitsA 0 = Array.replicate 192 (.bool false) := by
  apply Array.ext_getElem?
  intro i
  rw [bitsA_get, Array.getElem?_replicate]
  simp
theorem bitsA_list (x : Nat) : bitsA x = ((List.range 192).map fun i => Value.bool (x.testBit i)).toArray := by
  apply Array.ext_getElem?
  intro i
  rw [bitsA_get]
  by_cases h : i < 192
  · simp [h, List.getElem?_range]
  · simp [h]
theorem build_0 (s : Bool) (w : World) : (Instr.build 59 #[(0, .bool s)]).run Try.prog w = .ok (.agg (#[.bool s] ++ Array.replicate 192 (.bool false))) w := by kernel_rfl
theorem build_whole (s : Bool) (w : World) : (Instr.build 59 #[(0, .bool s)]).run Try.prog w = .ok (.agg (wholeA s 0)) w := by
  rw [build_0]; unfold wholeA; rw [bitsA_zero]
theorem build_1 (s : Bool) (x : Nat) (w : World) : (Instr.build 59 #[(0, .bool s), (1, .agg ((List.range 192).map fun i => Value.bool (x.testBit i)).toArray)]).run Try.prog w =
    .ok (.agg (#[.bool s] ++ ((List.range 192).map fun i => Value.bool (x.testBit i)).toArray)) w := by kernel_rfl
theorem build_both (s : Bool) (x : Nat) (w : World) : (Instr.build 59 #[(0, .bool s), (1, .agg (bitsA x))]).run Try.prog w = .ok (.agg (wholeA s x)) w := by
  unfold wholeA; rw [bitsA_list]; exact build_1 s x w
theorem build_2 (x : Nat) (w : World) : (Instr.build 59 #[(1, .agg ((List.range 192).map fun i => Value.bool (x.testBit i)).toArray)]).run Try.prog w =
    .ok (.agg (#[.bool false] ++ ((List.range 192).map fun i => Value.bool (x.testBit i)).toArray)) w := by kernel_rfl
theorem build_bits (x : Nat) (w : World) : (Instr.build 59 #[(1, .agg (bitsA x))]).run Try.prog w = .ok (.agg (wholeA false x)) w := by
  unfold wholeA; rw [bitsA_list]; exact build_2 x w
theorem build_3 (w : World) : (Instr.build 57 #[]).run Try.prog w = .ok (.agg (Array.replicate 192 (.bool false))) w := by kernel_rfl
theorem build_none (w : World) : (Instr.build 57 #[]).run Try.prog w = .ok (.agg (bitsA 0)) w := by rw [build_3, bitsA_zero]
section
variable {ops : Array Oper} {rest : List Oper} {a : Act} {w : World} {Q : Exit → Act → World → Prop} {C : World → Prop} {K : Act → Prop} {dst : Option Tmp} {ty : TypeId} {pos : String} {after : Array Edge} {guard : Option (Nat × Bool)} {x y : Operand} {s : Bool} {m : Nat}
theorem exec_build {T : TypeId} {parts : Array (Nat × Operand)} {ps : Array (Nat × Value)} {v : Value} (hp : (parts.map fun (i, x) => (i, a.eval x)) = ps) (h : ∀ w, (Instr.build T ps).run Try.prog w = .ok v w) :
    ∀ w, (execOp a.eval ⟨dst, .build T parts, ty, pos, after, guard⟩).run Try.prog w = .ok (.value v) w := by
  subst hp
  intro w
  unfold execOp
  simp only [Sem.run_bind, h]
  rfl
theorem wpl_build0 (hw : Region.wanted ⟨dst, .build 59 #[(0, x)], ty, pos, after, guard⟩ (yielded ops a.tmps) = true) (hx : a.eval x = .bool s) (h : wpList Try.prog ops Q rest (a.put dst (.agg (wholeA s 0))) w) :
    wpList Try.prog ops Q (⟨dst, .build 59 #[(0, x)], ty, pos, after, guard⟩ :: rest) a w :=
  wpl_pure hw _ (exec_build (by simp [hx]) (build_whole s)) h
theorem wpl_build2 (hw : Region.wanted ⟨dst, .build 59 #[(1, x)], ty, pos, after, guard⟩ (yielded ops a.tmps) = true) (hx : a.eval x = .agg (bitsA m)) (h : wpList Try.prog ops Q rest (a.put dst (.agg (wholeA false m))) w) :
    wpList Try.prog ops Q (⟨dst, .build 59 #[(1, x)], ty, pos, after, guard⟩ :: rest) a w :=
  wpl_pure hw _ (exec_build (by simp [hx]) (build_bits m)) h
theorem wpQ_build1 (hw : Region.wanted ⟨dst, .build 59 #[(0, x), (1, y)], ty, pos, after, guard⟩ (yielded ops a.tmps) = true) (hx : a.eval x = .bool s) (hy : a.eval y = .agg (bitsA m)) (h : wpQuiet Try.prog ops C K rest (a.put dst (.agg (wholeA s m)))) :
    wpQuiet Try.prog ops C K (⟨dst, .build 59 #[(0, x), (1, y)], ty, pos, after, guard⟩ :: rest) a :=
  wpQ_pure hw _ (exec_build (by simp [hx, hy]) (build_both s m)) h
theorem wpl_build3 (hw : Region.wanted ⟨dst, .build 57 #[], ty, pos, after, guard⟩ (yielded ops a.tmps) = true) (h : wpList Try.prog ops Q rest (a.put dst (.agg (bitsA 0))) w) :
    wpList Try.prog ops Q (⟨dst, .build 57 #[], ty, pos, after, guard⟩ :: rest) a w :=
  wpl_pure hw _ (exec_build (by simp) build_none) h
end
end Go.Proofs.Ytfbipghjhngncaa
