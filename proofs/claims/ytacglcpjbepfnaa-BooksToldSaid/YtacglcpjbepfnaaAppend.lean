/- Append from whatever can be read (nil too); a block's head as a row. -/
import Derived.Test.YtacglcpjbepfnaaFull
namespace Go.Proofs.Ytacglcpjbepfnaa
open Go.RowKit
set_option linter.unusedSimpArgs false
set_option linter.unusedVariables false
theorem Heap.celRowA {W w : World} {l : List Thing} {g e size n m : Nat} {c : Array Value} (H : Heap W (Cel g c e :: l) w) (hc : c.size = m * size) (hn : n ≤ m) (hm : m ≤ maxLen) : Heap W (RowT e size (.slice (some ⟨g, 0, none⟩) n m) n (c.toList.take (n * size)) :: l) w := by
  have h2 : n * size ≤ m * size := Nat.mul_le_mul_right _ hn
  exact H.head (World.grownBy.refl _ _) ⟨by simp; omega, .inr ⟨g, m, c, rfl, Nat.zero_le _, H.blk List.mem_cons_self, hn, hm, by omega, rfl⟩⟩ (.inl rfl)
section
variable {ops : Array Oper} {rest : List Oper} {o : Oper} {a : Act} {w W : World} {l : List Thing} {Q : Exit → Act → World → Prop}
/-- append(s, x...), x whatever can be read. -/
theorem wpl_appendA {t e size bytes : Nat} {z : Value} (T : SlTy Try.prog t e size bytes z) (hgd : o.guard = none) {s x : Operand}
    (ho : o.op = .call { callee := .builtin .append, args := #[s, x], argTypes := #[t, t] }) {v : Value} (hs : a.eval s = v) {ao : Option Addr} {m c : Nat} (hx : a.eval x = .slice ao m c)
    {n : Nat} {xs news : List Value} (H : Heap W (RowT e size v n xs :: l) w) (hrd : Rd w ao news) (hl : news.length = m * size) (h1 : OneCells news)
    (h63 : n + m ≤ maxLen) (hbytes : (n + m) * bytes ≤ 140737488355328)
    (h : ∀ v' w', (v' = .slice none 0 0 ↔ v = .slice none 0 0 ∧ m = 0) → Heap W (RowT e size v' (n + m) (xs ++ news) :: l) w' → wpList Try.prog ops Q rest (a.put o.dst v') w') : wpList Try.prog ops Q (o :: rest) a w := by
  by_cases hm : m = 0
  · subst hm
    have hn0 : news = [] := List.eq_nil_of_length_eq_zero (by simpa using hl)
    subst hn0
    obtain ⟨i, hi, hz, hsi, hbi⟩ := T.inf
    have hr : (Builtin.append_ #[t, t] o.type #[v, .slice ao 0 c]).run Try.prog w = .ok v w := by
      rcases (H.ok _ List.mem_cons_self).2 with ⟨rfl, rfl⟩ | ⟨g, cap, cur, rfl, _, _, hnc, _⟩
      · cases ao <;> simp [Builtin.append_, run_underlying T.und, sizeOf, typeInfo, hi, Builtin.lenOf, Builtin.firstCells, loadCells, loadCellsFrom]
      · cases ao <;> simp [Builtin.append_, run_underlying T.und, sizeOf, typeInfo, hi, Builtin.lenOf, Builtin.firstCells, hnc, storeCells, loadCells, loadCellsFrom]
    refine wpList_plain hgd fun K hK => ?_
    unfold Oper.wp execOp
    simp only [ho, resolve, invoke, builtin, Sem.run_bind, Sem.run_pure, Result.andThen_ok, List.map_toArray, List.map_cons, List.map_nil, hs, hx, hr]
    exact hK _ _ (h v w ⟨fun e => ⟨e, rfl⟩, fun e => e.1⟩ (by rw [List.append_nil]; exact H))
  · obtain ⟨b, off, rfl, _⟩ := hrd.lt (by rw [hl]; have := T.pos; exact Nat.mul_pos (by omega) this)
    refine wpl_appendH T hgd ho hs hx H hrd hl h1 h63 hbytes fun v' w' H' => h v' w' ⟨fun e => ?_, fun e => absurd e.2 hm⟩ H'
    subst e
    obtain ⟨_, ⟨_, h0⟩ | ⟨g, cap, cur, hv, _⟩⟩ := H'.ok _ List.mem_cons_self
    · omega
    · cases hv
/-- s[:hi]. -/
theorem wpl_cutTo {t e size bytes : Nat} {z : Value} (T : SlTy Try.prog t e size bytes z) {dst : Option Tmp} {ty : TypeId} {pos : String} {after : Array Edge} {guard : Option (Nat × Bool)} {x y : Operand} (hw : Region.wanted ⟨dst, .slice t x none (some y) none, ty, pos, after, guard⟩ (yielded ops a.tmps) = true)
    {ao : Option Addr} {n c hi : Nat} {k : IntKind} (hx : a.eval x = .slice ao n c) (hy : a.eval y = .int k (hi : Int)) (hh : hi ≤ c) (h : wpList Try.prog ops Q rest (a.put dst (.slice ao hi c)) w) : wpList Try.prog ops Q (⟨dst, .slice t x none (some y) none, ty, pos, after, guard⟩ :: rest) a w := by
  refine wpl_pure hw _ (fun w => ?_) h
  have hr := run_cutTo (P := Try.prog) T ao n c hi k hh w
  have hs : (Instr.sliceAt t (.slice ao n c) none (some (.int k (hi : Int))) none).run Try.prog w = .ok (.slice ao hi c) w := by
    unfold Instr.sliceAt
    rw [Sem.run_bind, run_underlying T.und]
    simp only [Result.andThen_ok]
    exact hr
  unfold execOp
  simp only [hx, Option.map_some, hy, Option.map_none, Sem.run_bind, hs, Result.andThen_ok, Sem.run_pure]
/-- s[lo:hi]. -/
theorem wpl_cutBoth {t e size bytes : Nat} {z : Value} (T : SlTy Try.prog t e size bytes z) {dst : Option Tmp} {ty : TypeId} {pos : String} {after : Array Edge} {guard : Option (Nat × Bool)} {x y u : Operand} (hw : Region.wanted ⟨dst, .slice t x (some u) (some y) none, ty, pos, after, guard⟩ (yielded ops a.tmps) = true)
    {ao : Option Addr} {n c lo hi : Nat} {k k2 : IntKind} (hx : a.eval x = .slice ao n c) (hu : a.eval u = .int k (lo : Int)) (hy : a.eval y = .int k2 (hi : Int)) (hl : lo ≤ hi) (hh : hi ≤ c) {ao2 : Option Addr} {m c2 : Nat} (he : cutA ao c lo size = ao2) (hm : hi - lo = m) (hc2 : c - lo = c2) (h : wpList Try.prog ops Q rest (a.put dst (.slice ao2 m c2)) w) : wpList Try.prog ops Q (⟨dst, .slice t x (some u) (some y) none, ty, pos, after, guard⟩ :: rest) a w := by
  subst he hm hc2
  refine wpl_pure hw _ (fun w => ?_) h
  have hr := run_cut (P := Try.prog) T ao n c lo hi k k2 hl hh w
  have hs : (Instr.sliceAt t (.slice ao n c) (some (.int k (lo : Int))) (some (.int k2 (hi : Int))) none).run Try.prog w = .ok (.slice (cutA ao c lo size) (hi - lo) (c - lo)) w := by
    unfold Instr.sliceAt
    rw [Sem.run_bind, run_underlying T.und]
    simp only [Result.andThen_ok]
    exact hr
  unfold execOp
  simp only [hx, Option.map_some, hu, hy, Option.map_none, Sem.run_bind, hs, Result.andThen_ok, Sem.run_pure]
theorem wpQ_loadRdR0 {T n : Nat} {z : Array Value} {dst : Option Tmp} {ty : TypeId} {pos : String} {after : Array Edge} {guard : Option (Nat × Bool)} {x : Operand} {b k : Nat} {K : Act → Prop} {H : Heap W l w} (RT : RowTy T n z) (hw : Region.wanted ⟨dst, .load T x, ty, pos, after, guard⟩ (yielded ops a.tmps) = true) (hx : a.eval x = .pointer (some ⟨b, k, none⟩))
    {xs : List Value} {c1 : Array Value} (R : ∀ w', Heap W l w' → Rd w' (some ⟨b, 0, none⟩) xs) (hn : k + n ≤ xs.length) (h0 : 0 < n) (hv : ((xs.drop k).take n).toArray = c1)
    (h : wpQuiet Try.prog ops (fun w' => ∃ d, w' = H.any d) K rest (a.put dst (.agg c1))) : wpQuiet Try.prog ops (fun w' => ∃ d, w' = H.any d) K (⟨dst, .load T x, ty, pos, after, guard⟩ :: rest) a :=
  wpQ_loadRdR RT hw hx R (Nat.zero_add k).symm hn h0 hv h
end
end Go.Proofs.Ytacglcpjbepfnaa
