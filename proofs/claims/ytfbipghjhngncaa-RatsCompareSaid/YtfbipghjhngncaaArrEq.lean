/- Two rows of bits are the same just where each bit is. -/
import Derived.Test.YtfbipghjhngncaaBuild
namespace Go.Proofs.Ytfbipghjhngncaa
open Go.RowKit
set_option linter.unusedSimpArgs false
set_option linter.unusedVariables false

theorem run_part_bit (x i : Nat) (hi : i < 192) (w : World) : (part 4 (bitsA x) (i * 1)).run Try.prog w = .ok (.bool (x.testBit i)) w := by
  have hu := Try.underlying4
  simp [part, isAgg, run_underlying hu, bitsA_get, hi]
theorem run_eq_bits (d : Nat) (x y : Nat) (w : World) : (Op.equalIn (d + 2) 57 (.agg (bitsA x)) (.agg (bitsA y))).run Try.prog w = .ok ((List.range' 0 192 1).all fun i => x.testBit i == y.testBit i) w := by
  have hs : (sizeOf 4).run Try.prog w = .ok 1 w := by kernel_rfl
  have key : ∀ l : List Nat, (∀ i ∈ l, i < 192) → ∀ (a : Option Bool × Unit), a.1 = none →
      ((forIn l a fun i (r : Option Bool × Unit) => do
        let va ← part 4 (bitsA x) (i * 1)
        let vb ← part 4 (bitsA y) (i * 1)
        let e ← Op.equalIn (d + 1) 4 va vb
        if (!e) = true then pure (ForInStep.done (some false, ())) else pure (ForInStep.yield (none, ()))) : Sem (Option Bool × Unit)).run Try.prog w
      = .ok (if l.all (fun i => x.testBit i == y.testBit i) then a else (some false, ())) w := by
    intro l
    induction l with
    | nil => intro _ a ha; simp
    | cons i l ih =>
      intro hl a ha
      have h1 := run_part_bit x i (hl i (by simp)) w
      have h2 := run_part_bit y i (hl i (by simp)) w
      have h3 := run_equalIn_bool (P := Try.prog) w d 4 (x.testBit i) (y.testBit i) Try.underlying4
      obtain ⟨a1, ⟨⟩⟩ := a
      simp only at ha
      subst ha
      rw [List.forIn_cons]
      simp only [Sem.run_bind, h1, h2, h3, Result.andThen_ok]
      cases he : (x.testBit i == y.testBit i)
      · simp [he]
      · simp only [Bool.not_true, Bool.false_eq_true, if_false, Sem.run_pure, Result.andThen_ok, List.all_cons, he, Bool.true_and]
        exact ih (fun j hj => hl j (by simp [hj])) _ rfl
  have hu := Try.underlying57
  rw [show d + 2 = (d + 1) + 1 from rfl, Op.equalIn]
  simp only [Sem.run_bind, run_underlying hu, Result.andThen_ok, hs, Std.Legacy.Range.forIn_eq_forIn_range']
  have h := key (List.range' 0 192 1) (fun i hi => by have := List.mem_range'.1 hi; omega) (none, ()) rfl
  rw [show [:192].size = 192 from rfl]
  rw [h]
  cases (List.range' 0 192 1).all fun i => x.testBit i == y.testBit i
  · simp
  · simp
theorem bits_same (x y : Nat) (hx : x < 2 ^ 192) (hy : y < 2 ^ 192) : ((List.range' 0 192 1).all fun i => x.testBit i == y.testBit i) = decide (x = y) := by
  rw [Bool.eq_iff_iff, List.all_eq_true, decide_eq_true_iff]
  constructor
  · intro h
    refine bitsA_inj hx hy (bitsA_congr fun i hi => ?_)
    have := h i (by rw [List.mem_range']; exact ⟨i, hi, by omega⟩)
    simpa using this
  · rintro rfl i _; simp
theorem run_neq_bits (x y : Nat) (w : World) (hx : x < 2 ^ 192) (hy : y < 2 ^ 192) : (binOp .neq 57 (.agg (bitsA x)) (.agg (bitsA y))).run Try.prog w = .ok (.bool (!decide (x = y))) w := by
  have h : (Op.equal 57 (.agg (bitsA x)) (.agg (bitsA y))).run Try.prog w = .ok (decide (x = y)) w := by
    rw [← bits_same x y hx hy]; exact run_eq_bits 9998 x y w
  simp only [binOp]
  simp [Sem.run_bind, h]
section
variable {ops : Array Oper} {rest : List Oper} {a : Act} {w : World} {Q : Exit → Act → World → Prop} {dst : Option Tmp} {ty : TypeId} {pos : String} {after : Array Edge} {guard : Option (Nat × Bool)} {p q : Operand} {x y : Nat}
theorem wpl_neqBits (hw : Region.wanted ⟨dst, .binOp .neq 57 p q 57, ty, pos, after, guard⟩ (yielded ops a.tmps) = true) (hp : a.eval p = .agg (bitsA x)) (hq : a.eval q = .agg (bitsA y)) (hx : x < 2 ^ 192) (hy : y < 2 ^ 192)
    (h : wpList Try.prog ops Q rest (a.put dst (.bool (!decide (x = y)))) w) : wpList Try.prog ops Q (⟨dst, .binOp .neq 57 p q 57, ty, pos, after, guard⟩ :: rest) a w := by
  refine wpl_pure hw _ (fun w => ?_) h
  have hg : (Try.prog.eqGuardType Try.prog.depth 57) = false := by kernel_rfl
  unfold execOp
  simp only [hp, hq, Sem.run_bind, run_neq_bits x y _ hx hy]
  simp [eqGuard, hg, run_neq_bits x y _ hx hy]
end
end Go.Proofs.Ytfbipghjhngncaa
