/- Part 6 of what several laws stand on: Rnd7, Append, Rnd8, Rnd9, Rnd10, ClipF. -/
import Derived.Test.YtbmmdfjabkpoeaaRndRPart5
/- Debts in memory. -/
namespace Go.Proofs.Ytbmmdfjabkpoeaa
open Go.RowKit
set_option linter.unusedSimpArgs false
set_option linter.unusedVariables false
def dbt (f : Int) (t : Int) (n : Int) (k : Int) : Array Value := #[.int .u8 f, .int .u8 t, .int .i64 n, .int .i64 k]
section
variable (f : Int) (t : Int) (n : Int) (k : Int)
theorem dbt_sz : (dbt f t n k).size = 4 := rfl
theorem dbt_g0 : (dbt f t n k)[0]? = some (.int .u8 f) := rfl
theorem dbt_s0 (v : Int) : (dbt f t n k).setIfInBounds 0 (.int .u8 v) = dbt v t n k := rfl
theorem dbt_g1 : (dbt f t n k)[1]? = some (.int .u8 t) := rfl
theorem dbt_s1 (v : Int) : (dbt f t n k).setIfInBounds 1 (.int .u8 v) = dbt f v n k := rfl
theorem dbt_g2 : (dbt f t n k)[2]? = some (.int .i64 n) := rfl
theorem dbt_s2 (v : Int) : (dbt f t n k).setIfInBounds 2 (.int .i64 v) = dbt f t v k := rfl
theorem dbt_g3 : (dbt f t n k)[3]? = some (.int .i64 k) := rfl
theorem dbt_s3 (v : Int) : (dbt f t n k).setIfInBounds 3 (.int .i64 v) = dbt f t n v := rfl
end
theorem cell_bool8 : CellTy 4 := ⟨⟨_, Try.underlying4, rfl⟩, by kernel_rfl⟩
theorem cell_pdbt : CellTy 51 := ⟨⟨_, Try.underlying51, rfl⟩, by kernel_rfl⟩
/-- A debt's block. -/
abbrev DbC (p : Nat) (f t : Nat) (n k : Int) : Thing := Cel p (dbt (f : Int) (t : Int) n k) 53
def debtT (p : Nat) (x : Flw) (m : Int) : Thing := DbC p x.f x.t m (x.n - m)
def dbs : List Nat → List Flw → List Int → List Thing
  | p :: ps, x :: F, m :: N => debtT p x m :: dbs ps F N
  | _, _, _ => []
def ptrL (ps : List Nat) : List Value := ps.map fun p => .pointer (some ⟨p, 0, none⟩)
theorem ptrL_len (ps : List Nat) : (ptrL ps).length = ps.length := by simp [ptrL]
theorem dbs_pull {l : List Thing} {p : Nat} {x : Flw} {m : Int} : ∀ {ps : List Nat} {F : List Flw} {N : List Int} {i : Nat}, ps[i]? = some p → F[i]? = some x → N[i]? = some m → ∃ r, Pull (dbs ps F N ++ l) (debtT p x m) r ∧ ∀ m', Pull (dbs ps F (N.set i m') ++ l) (debtT p x m') r
  | [], F, N, i, h, _, _ => by simp at h
  | q :: ps, [], N, i, _, h, _ => by simp at h
  | q :: ps, y :: F, [], i, _, _, h => by simp at h
  | q :: ps, y :: F, k :: N, 0, h1, h2, h3 => by
    simp at h1 h2 h3
    subst h1 h2 h3
    exact ⟨dbs ps F N ++ l, .here, fun m' => .here⟩
  | q :: ps, y :: F, k :: N, i + 1, h1, h2, h3 => by
    obtain ⟨r, g1, g2⟩ := dbs_pull (l := l) (ps := ps) (F := F) (N := N) (i := i) (by simpa using h1) (by simpa using h2) (by simpa using h3)
    exact ⟨debtT q y k :: r, .there g1, fun m' => .there (g2 m')⟩
theorem dbs_mem {p : Nat} {x : Flw} {m : Int} {ps : List Nat} {F : List Flw} {N : List Int} {i : Nat} (h1 : ps[i]? = some p) (h2 : F[i]? = some x) (h3 : N[i]? = some m) {l : List Thing} : debtT p x m ∈ dbs ps F N ++ l := by
  obtain ⟨r, g, _⟩ := dbs_pull (l := l) h1 h2 h3
  exact g.perm.mem_iff.2 List.mem_cons_self
/-- A step as a value. -/
def stp (p : Nat) (b : Bool) : Array Value := #[.pointer (some ⟨p, 0, none⟩), .bool b]
theorem stp_g0 (p : Nat) (b : Bool) : (stp p b)[0]? = some (.pointer (some ⟨p, 0, none⟩)) := rfl
theorem stp_g1 (p : Nat) (b : Bool) : (stp p b)[1]? = some (.bool b) := rfl
section
variable {W w : World} {l : List Thing}
set_option maxRecDepth 100000
set_option maxHeartbeats 2000000
theorem most8_H (p f t : Nat) (n k : Int) (b : Bool) (m : DbC p f t n k ∈ l) : AnsH W l 43 #[.agg (stp p b)] (.int .i64 (if b then k else n)) := by
  intro w H
  cases b
  all_goals
    go_enter Try.func43, Try.ntmps43
    go_wp2_with (first | go_skip | ((with_reducible show wpList _ _ _ (_ :: _) _ _); (with_reducible apply wpl_boxRH); (· rfl); (· rfl); (· exact H); (clear H; intro px _ H); (simp only [Act.put, List.setIfInBounds_toArray, List.set_cons_zero, List.set_cons_succ])) | ((with_reducible show wpList _ _ _ (_ :: _) _ _); (with_reducible apply wpl_loadCH); (· first | exact cell_bool8 | exact cell_pdbt); (· rfl); (· rfl); (· exact H); (· exact List.mem_cons_self); (· with_reducible first | exact stp_g0 .. | exact stp_g1 ..); (simp only [Act.put, List.setIfInBounds_toArray, List.set_cons_zero, List.set_cons_succ])) | ((with_reducible show wpList _ _ _ (_ :: _) _ _); (with_reducible apply wpl_loadCH); (· exact cell_i64); (· rfl); (· rfl); (· exact H); (· exact List.mem_cons_of_mem _ m); (· (with_reducible first | exact dbt_g0 .. | exact dbt_g1 .. | exact dbt_g2 .. | exact dbt_g3 ..)); (simp only [Act.put, List.setIfInBounds_toArray, List.set_cons_zero, List.set_cons_succ])))
    go_ret
    exact ⟨rfl, H.tail⟩
theorem goes8_H (p f t : Nat) (n k v : Int) (b : Bool) (h1 : 0 ≤ n ∧ n ≤ 1099511627776) (h2 : 0 ≤ k ∧ k ≤ 1099511627776) (h3 : 0 ≤ v ∧ v ≤ 1099511627776) (H : Heap W (DbC p f t n k :: l) w) :
    Calls Try.prog 44 #[.agg (stp p b), .int .i64 v] w fun e w' => e = .returned (.tuple #[]) ∧ Heap W (DbC p f t (n + if b then v else -v) (k - if b then v else -v) :: l) w' := by
  have w0 : wrap64 (-v) = -v := IntWalk.wrap64_in _ ⟨by omega, by omega⟩
  have w1 : wrap64 (n - v) = n - v := IntWalk.wrap64_in _ ⟨by omega, by omega⟩
  have w2 : wrap64 (k + v) = k + v := IntWalk.wrap64_in _ ⟨by omega, by omega⟩
  have w3 : wrap64 (n - -v) = n - -v := IntWalk.wrap64_in _ ⟨by omega, by omega⟩
  have w4 : wrap64 (k + -v) = k + -v := IntWalk.wrap64_in _ ⟨by omega, by omega⟩
  cases b
  all_goals
    go_enter Try.func44, Try.ntmps44
    go_wp2_with (first | go_skip | ((with_reducible show wpList _ _ _ (_ :: _) _ _); (with_reducible apply wpl_boxRH); (· rfl); (· rfl); (· exact H); (clear H; intro px _ H); (simp only [Act.put, List.setIfInBounds_toArray, List.set_cons_zero, List.set_cons_succ])) | ((with_reducible show wpList _ _ _ (_ :: _) _ _); (with_reducible apply wpl_loadCH); (· first | exact cell_bool8 | exact cell_pdbt); (· rfl); (· rfl); (· exact H); (· exact List.mem_cons_self); (· with_reducible first | exact stp_g0 .. | exact stp_g1 ..); (simp only [Act.put, List.setIfInBounds_toArray, List.set_cons_zero, List.set_cons_succ])) | ((with_reducible show wpList _ _ _ (_ :: _) _ _); (with_reducible apply wpl_loadCH); (· exact cell_i64); (· rfl); (· rfl); (· exact H); (· (repeat (first | (with_reducible exact List.mem_cons_self) | with_reducible apply List.mem_cons_of_mem))); (· (with_reducible first | exact dbt_g0 .. | exact dbt_g1 .. | exact dbt_g2 .. | exact dbt_g3 ..)); (simp only [Act.put, List.setIfInBounds_toArray, List.set_cons_zero, List.set_cons_succ])) | (first | ((with_reducible show wpList _ _ _ (_ :: _) _ _); (with_reducible apply wpl_storeIH); (· exact cell_i64); (· rfl); (· rfl); (· rfl); (· exact H); (· (repeat (first | (with_reducible exact List.mem_cons_self) | with_reducible apply List.mem_cons_of_mem))); (· (simp only [dbt_sz, Nat.reduceLT]; done)); (· (with_reducible first | exact dbt_s0 .. | exact dbt_s1 .. | exact dbt_s2 .. | exact dbt_s3 ..)); (· (repeat (first | (with_reducible exact Repl.here) | with_reducible apply Repl.there))); (clear H; intro _ H); (simp only [Act.put, List.setIfInBounds_toArray, List.set_cons_zero, List.set_cons_succ])) | ((with_reducible show wpList _ _ _ (_ :: _) _ _); (with_reducible apply wpl_storeBH); (· exact cell_i64); (· rfl); (· rfl); (· rfl); (· exact H); (· (repeat (first | (with_reducible exact List.mem_cons_self) | with_reducible apply List.mem_cons_of_mem))); (· (simp only [dbt_sz, Nat.reduceLT]; done)); (· (with_reducible first | exact dbt_s0 .. | exact dbt_s1 .. | exact dbt_s2 .. | exact dbt_s3 ..)); (· (repeat (first | (with_reducible exact Repl.here) | with_reducible apply Repl.there))); (clear H; intro _ H); (simp only [Act.put, List.setIfInBounds_toArray, List.set_cons_zero, List.set_cons_succ])) | ((with_reducible show wpList _ _ _ (_ :: _) _ _); (with_reducible apply wpl_storeSH); (· exact cell_i64); (· rfl); (· rfl); (· rfl); (· exact H); (· (repeat (first | (with_reducible exact List.mem_cons_self) | with_reducible apply List.mem_cons_of_mem))); (· (simp only [dbt_sz, Nat.reduceLT]; done)); (· (with_reducible first | exact dbt_s0 .. | exact dbt_s1 .. | exact dbt_s2 .. | exact dbt_s3 ..)); (· (repeat (first | (with_reducible exact Repl.here) | with_reducible apply Repl.there))); (clear H; intro _ H); (simp only [Act.put, List.setIfInBounds_toArray, List.set_cons_zero, List.set_cons_succ])) | ((with_reducible show wpList _ _ _ (_ :: _) _ _); (with_reducible apply wpl_storePH); (· exact cell_i64); (· rfl); (· rfl); (· rfl); (· exact H); (· (repeat (first | (with_reducible exact List.mem_cons_self) | with_reducible apply List.mem_cons_of_mem))); (· (simp only [dbt_sz, Nat.reduceLT]; done)); (· (with_reducible first | exact dbt_s0 .. | exact dbt_s1 .. | exact dbt_s2 .. | exact dbt_s3 ..)); (· (repeat (first | (with_reducible exact Repl.here) | with_reducible apply Repl.there))); (clear H; intro _ H); (simp only [Act.put, List.setIfInBounds_toArray, List.set_cons_zero, List.set_cons_succ]))))
    go_end0
    refine ⟨rfl, ?_⟩
    have H2 := H.tail
    simpa [Int.sub_eq_add_neg] using H2
end
end Go.Proofs.Ytbmmdfjabkpoeaa

/- Append from whatever can be read (nil too); a block's head as a row. -/
namespace Go.Proofs.Ytbmmdfjabkpoeaa
open Go.RowKit
set_option linter.unusedSimpArgs false
set_option linter.unusedVariables false
theorem Heap.celRowA {W w : World} {l : List Thing} {g e size n m : Nat} {c : Array Value} (H : Heap W (Cel g c e :: l) w) (hc : c.size = m * size) (hn : n ≤ m) (hm : m ≤ maxLen) : Heap W (RowT e size (.slice (some ⟨g, 0, none⟩) n m) n (c.toList.take (n * size)) :: l) w := by
  have h2 : n * size ≤ m * size := Nat.mul_le_mul_right _ hn
  exact H.head (World.grownBy.refl _ _) ⟨by simp; omega, .inr ⟨g, m, c, rfl, Nat.zero_le _, H.blk List.mem_cons_self, hn, hm, by omega, rfl⟩⟩ (.inl rfl)
section
variable {ops : Array Oper} {rest : List Oper} {o : Oper} {a : Act} {w W : World} {l : List Thing} {Q : Exit → Act → World → Prop}
/-- append(s, x...), x whatever can be read. -/
theorem wpl_appendA {t e size bytes : Nat} {z : Value} (T : SlTy Try.prog t e size bytes z) (hgd : o.guard = none) {s x : Operand}
    (ho : o.op = .call { callee := .builtin .append, args := #[s, x], argTypes := #[t, t] }) {v : Value} (hs : a.eval s = v) {ao : Option Addr} {m c : Nat} (hx : a.eval x = .slice ao m c)
    {n : Nat} {xs news : List Value} (H : Heap W (RowT e size v n xs :: l) w) (hrd : Rd w ao news) (hl : news.length = m * size) (h1 : OneCells news)
    (h63 : n + m ≤ maxLen) (hbytes : (n + m) * bytes ≤ 140737488355328)
    (h : ∀ v' w', (v' = .slice none 0 0 ↔ v = .slice none 0 0 ∧ m = 0) → Heap W (RowT e size v' (n + m) (xs ++ news) :: l) w' → wpList Try.prog ops Q rest (a.put o.dst v') w') : wpList Try.prog ops Q (o :: rest) a w := by
  by_cases hm : m = 0
  · subst hm
    have hn0 : news = [] := List.eq_nil_of_length_eq_zero (by simpa using hl)
    subst hn0
    obtain ⟨i, hi, hz, hsi, hbi⟩ := T.inf
    have hr : (Builtin.append_ #[t, t] o.type #[v, .slice ao 0 c]).run Try.prog w = .ok v w := by
      rcases (H.ok _ List.mem_cons_self).2 with ⟨rfl, rfl⟩ | ⟨g, cap, cur, rfl, _, _, hnc, _⟩
      · cases ao <;> simp [Builtin.append_, run_underlying T.und, sizeOf, typeInfo, hi, Builtin.lenOf, Builtin.firstCells, loadCells, loadCellsFrom]
      · cases ao <;> simp [Builtin.append_, run_underlying T.und, sizeOf, typeInfo, hi, Builtin.lenOf, Builtin.firstCells, hnc, storeCells, loadCells, loadCellsFrom]
    refine wpList_plain hgd fun K hK => ?_
    unfold Oper.wp execOp
    simp only [ho, resolve, invoke, builtin, Sem.run_bind, Sem.run_pure, Result.andThen_ok, List.map_toArray, List.map_cons, List.map_nil, hs, hx, hr]
    exact hK _ _ (h v w ⟨fun e => ⟨e, rfl⟩, fun e => e.1⟩ (by rw [List.append_nil]; exact H))
  · obtain ⟨b, off, rfl, _⟩ := hrd.lt (by rw [hl]; have := T.pos; exact Nat.mul_pos (by omega) this)
    refine wpl_appendH T hgd ho hs hx H hrd hl h1 h63 hbytes fun v' w' H' => h v' w' ⟨fun e => ?_, fun e => absurd e.2 hm⟩ H'
    subst e
    obtain ⟨_, ⟨_, h0⟩ | ⟨g, cap, cur, hv, _⟩⟩ := H'.ok _ List.mem_cons_self
    · omega
    · cases hv
/-- s[:hi]. -/
theorem wpl_cutTo {t e size bytes : Nat} {z : Value} (T : SlTy Try.prog t e size bytes z) {dst : Option Tmp} {ty : TypeId} {pos : String} {after : Array Edge} {guard : Option (Nat × Bool)} {x y : Operand} (hw : Region.wanted ⟨dst, .slice t x none (some y) none, ty, pos, after, guard⟩ (yielded ops a.tmps) = true)
    {ao : Option Addr} {n c hi : Nat} {k : IntKind} (hx : a.eval x = .slice ao n c) (hy : a.eval y = .int k (hi : Int)) (hh : hi ≤ c) (h : wpList Try.prog ops Q rest (a.put dst (.slice ao hi c)) w) : wpList Try.prog ops Q (⟨dst, .slice t x none (some y) none, ty, pos, after, guard⟩ :: rest) a w := by
  refine wpl_pure hw _ (fun w => ?_) h
  have hr := run_cutTo (P := Try.prog) T ao n c hi k hh w
  have hs : (Instr.sliceAt t (.slice ao n c) none (some (.int k (hi : Int))) none).run Try.prog w = .ok (.slice ao hi c) w := by
    unfold Instr.sliceAt
    rw [Sem.run_bind, run_underlying T.und]
    simp only [Result.andThen_ok]
    exact hr
  unfold execOp
  simp only [hx, Option.map_some, hy, Option.map_none, Sem.run_bind, hs, Result.andThen_ok, Sem.run_pure]
/-- s[lo:hi]. -/
theorem wpl_cutBoth {t e size bytes : Nat} {z : Value} (T : SlTy Try.prog t e size bytes z) {dst : Option Tmp} {ty : TypeId} {pos : String} {after : Array Edge} {guard : Option (Nat × Bool)} {x y u : Operand} (hw : Region.wanted ⟨dst, .slice t x (some u) (some y) none, ty, pos, after, guard⟩ (yielded ops a.tmps) = true)
    {ao : Option Addr} {n c lo hi : Nat} {k k2 : IntKind} (hx : a.eval x = .slice ao n c) (hu : a.eval u = .int k (lo : Int)) (hy : a.eval y = .int k2 (hi : Int)) (hl : lo ≤ hi) (hh : hi ≤ c) {ao2 : Option Addr} {m c2 : Nat} (he : cutA ao c lo size = ao2) (hm : hi - lo = m) (hc2 : c - lo = c2) (h : wpList Try.prog ops Q rest (a.put dst (.slice ao2 m c2)) w) : wpList Try.prog ops Q (⟨dst, .slice t x (some u) (some y) none, ty, pos, after, guard⟩ :: rest) a w := by
  subst he hm hc2
  refine wpl_pure hw _ (fun w => ?_) h
  have hr := run_cut (P := Try.prog) T ao n c lo hi k k2 hl hh w
  have hs : (Instr.sliceAt t (.slice ao n c) (some (.int k (lo : Int))) (some (.int k2 (hi : Int))) none).run Try.prog w = .ok (.slice (cutA ao c lo size) (hi - lo) (c - lo)) w := by
    unfold Instr.sliceAt
    rw [Sem.run_bind, run_underlying T.und]
    simp only [Result.andThen_ok]
    exact hr
  unfold execOp
  simp only [hx, Option.map_some, hu, hy, Option.map_none, Sem.run_bind, hs, Result.andThen_ok, Sem.run_pure]
theorem wpQ_loadRdR0 {T n : Nat} {z : Array Value} {dst : Option Tmp} {ty : TypeId} {pos : String} {after : Array Edge} {guard : Option (Nat × Bool)} {x : Operand} {b k : Nat} {K : Act → Prop} {H : Heap W l w} (RT : RowTy T n z) (hw : Region.wanted ⟨dst, .load T x, ty, pos, after, guard⟩ (yielded ops a.tmps) = true) (hx : a.eval x = .pointer (some ⟨b, k, none⟩))
    {xs : List Value} {c1 : Array Value} (R : ∀ w', Heap W l w' → Rd w' (some ⟨b, 0, none⟩) xs) (hn : k + n ≤ xs.length) (h0 : 0 < n) (hv : ((xs.drop k).take n).toArray = c1)
    (h : wpQuiet Try.prog ops (fun w' => ∃ d, w' = H.any d) K rest (a.put dst (.agg c1))) : wpQuiet Try.prog ops (fun w' => ∃ d, w' = H.any d) K (⟨dst, .load T x, ty, pos, after, guard⟩ :: rest) a :=
  wpQ_loadRdR RT hw hx R (Nat.zero_add k).symm hn h0 hv h
end
end Go.Proofs.Ytbmmdfjabkpoeaa

/- rounds: the edges of debts. -/
namespace Go.Proofs.Ytbmmdfjabkpoeaa
open Go.RowKit
set_option linter.unusedSimpArgs false
set_option linter.unusedVariables false
theorem edD_app : ∀ (F : List Flw) (N : List Int) (x : Flw) (m : Int), N.length = F.length → edD (F ++ [x]) (N ++ [m]) = edD F N ++ edX x m
  | [], [], x, m, _ => by simp [edD]
  | [], k :: N, x, m, h => by simp at h
  | y :: F, [], x, m, h => by simp at h
  | y :: F, k :: N, x, m, h => by
    show edX y k ++ edD (F ++ [x]) (N ++ [m]) = edX y k ++ edD F N ++ edX x m
    rw [edD_app F N x m (by simpa using h), List.append_assoc]
theorem edD_take {F : List Flw} {N : List Int} (h : N.length = F.length) {k : Nat} {x : Flw} {m : Int} (hx : F[k]? = some x) (hm : N[k]? = some m) : edD (F.take (k + 1)) (N.take (k + 1)) = edD (F.take k) (N.take k) ++ edX x m := by
  rw [List.take_add_one, hx, List.take_add_one, hm]
  exact edD_app _ _ _ _ (by simp; omega)
theorem edgC_one8 (a b c : Int) : OneCells (edg a b c).toList := by
  intro v hv
  simp [edg] at hv
  rcases hv with rfl | rfl | rfl <;> rfl
theorem bs_edg8 : Try.prog.underlying 36 = some (.slice 42) ∧ (Try.prog.info? 42).map (fun i => (i.size, i.zero.map Value.cells)) = some ((edg 0 0 0).size, some (edg 0 0 0)) ∧ 0 < (edg 0 0 0).size ∧ (edg 0 0 0).size ≤ 65536 := ⟨Try.underlying36, by kernel_rfl, by decide, by decide⟩
structure EdR (W : World) (l : List Thing) (F : List Flw) (N : List Int) (n : Nat) (v i : Value) (wr : World) : Prop where
  out : ∃ k : Nat, k ≤ n ∧ i = .int .i64 (k : Int) ∧ Heap W (RowT 42 3 v (edD (F.take k) (N.take k)).length (edgL (edD (F.take k) (N.take k))) :: l) wr
section
variable {W w : World} {l : List Thing}
set_option maxRecDepth 100000
set_option maxHeartbeats 4000000
theorem edges8_H (a : Option Addr) (n c : Nat) (ps : List Nat) (F : List Flw) (N : List Int) (hp : ps.length = n) (hf : F.length = n) (hN : N.length = n) (hn : n ≤ 1000)
    (R : ∀ l' w', (∀ x ∈ l, x ∈ l') → Heap W l' w' → Rd w' a (ptrL ps)) (D : ∀ (i p : Nat) (x : Flw) (m : Int), ps[i]? = some p → F[i]? = some x → N[i]? = some m → debtT p x m ∈ l) (H : Heap W l w) :
    Calls Try.prog 22 #[.slice a n c] w fun e w' => ∃ v, e = .returned v ∧ Heap W (RowT 42 3 v (edD F N).length (edgL (edD F N)) :: l) w' := by
  have HP := Lib.hid (And.intro hp (And.intro hf hN))
  have HD := Lib.hid D
  have HR := Lib.hid R
  clear hp hf hN D R
  go_enter Try.func22, Try.ntmps22
  go_wp2_with (go_skip)
  have H0 := H.nilRow 42 3
  clear H
  go_loopw [2, 7] (fun v i wr => EdR W l F N n v i wr) (fun _ i _ => n - (intOf i).toNat)
  case atStart => exact ⟨0, Nat.zero_le _, rfl, by simpa [edD, edgL] using H0⟩
  case round =>
    obtain ⟨k, hk, rfl, H⟩ := hrel.out
    clear H0 hrel
    by_cases hlt : k < n
    · have hpk : ps[k]? = some (ps[k]'(by rw [HP.out.1]; exact hlt)) := List.getElem?_eq_getElem _
      have hfk : F[k]? = some (F[k]'(by rw [HP.out.2.1]; exact hlt)) := List.getElem?_eq_getElem _
      have hnk : N[k]? = some (N[k]'(by rw [HP.out.2.2]; exact hlt)) := List.getElem?_eq_getElem _
      generalize ps[k]'(by rw [HP.out.1]; exact hlt) = p at *
      generalize F[k]'(by rw [HP.out.2.1]; exact hlt) = x at *
      generalize N[k]'(by rw [HP.out.2.2]; exact hlt) = m at *
      have hm : debtT p x m ∈ l := HD.out k p x m hpk hfk hnk
      have htk := edD_take (by rw [HP.out.2.2, HP.out.2.1]) hfk hnk
      have HTK := Lib.hid htk
      have hlen := edD_len (F.take k) (N.take k)
      have hlk : (F.take k).length ≤ 1000 := by simp; omega
      have Rw := HR.out _ wr (fun x hx => List.mem_cons_of_mem _ hx) H
      obtain ⟨eb, eo, rfl, _⟩ := Rw.lt (by rw [ptrL_len, HP.out.1]; omega)
      have hc : wr.cell? ⟨eb, eo + k, none⟩ = some (.pointer (some ⟨p, 0, none⟩)) := by
        have := Rw.get (i := k) (by rw [ptrL_len, HP.out.1]; exact hlt)
        simpa [ptrL, List.getElem_map, (List.getElem?_eq_some_iff.1 hpk).2] using this
      clear htk hpk hfk hnk Rw
      generalize edD (F.take k) (N.take k) = E at *
      obtain ⟨f, t, y⟩ := x
      unfold debtT at hm
      simp only at hm
      obtain ⟨kk, hkk⟩ : ∃ kk, y - m = kk := ⟨_, rfl⟩
      rw [hkk] at hm
      obtain ⟨ne, hne⟩ : ∃ ne, E.length = ne := ⟨_, rfl⟩
      have HNE := Lib.hid hne
      rw [hne] at H hlen
      clear hne
      have hn1 : ne + 1 ≤ maxLen := by unfold maxLen; omega
      have hn2 : (ne + 1) * 3 ≤ 140737488355328 := by omega
      have hn3 : ne + 1 + 1 ≤ maxLen := by unfold maxLen; omega
      have hn4 : (ne + 1 + 1) * 3 ≤ 140737488355328 := by omega
      by_cases h0 : 0 < m
      · have d0 : decide (m > 0) = true := decide_eq_true (by omega)
        by_cases h1 : 0 < kk
        · have d1 : decide (kk > 0) = true := decide_eq_true (by omega)
          have hX : edX ⟨f, t, y⟩ m = [⟨f, t, -1⟩, ⟨t, f, 1⟩] := by unfold edX; rw [if_pos (by omega), if_pos (by simp only; omega)]; rfl
          have HX := Lib.hid hX
          clear hX
          go_wp2_with (first | go_skip | ((with_reducible show wpList _ _ _ (_ :: _) _ _); (with_reducible apply wpl_loadCH); (· exact cell_i64); (· rfl); (· rfl); (· exact H); (· exact List.mem_cons_of_mem _ hm); (· (with_reducible first | exact dbt_g0 .. | exact dbt_g1 .. | exact dbt_g2 .. | exact dbt_g3 ..)); (simp only [Act.put, List.setIfInBounds_toArray, List.set_cons_zero, List.set_cons_succ])))
          refine wp_region_O [12, 13] [0, 1, 2, 3, 4, 5, 6, 7, 8, 9, 10, 11, 12, 13, 14] (fun l0 => ∃ pre, l0 = pre ++ l) H ⟨[_], rfl⟩ (by kernel_rfl) (by kernel_rfl) ?_
          iterate 12 (apply wpO_step; (· rfl); (· rfl); (· rfl); (· exact Nat.le_of_ble_eq_true rfl); (· rintro l0 ⟨pre, rfl⟩ w0 H0; (first | go_big_quiet_skip | ((with_reducible apply wpQ_loadCH); (· exact cell_party); (· rfl); (· rfl); (· exact List.mem_append_right _ hm); (· (with_reducible first | exact dbt_g0 .. | exact dbt_g1 .. | exact dbt_g2 .. | exact dbt_g3 ..)); (simp only [Act.put, List.setIfInBounds_toArray, List.set_cons_zero, List.set_cons_succ])) | go_big_quiet_step (fail)); (refine wpQuiet_nil ?_); (simp only [Array.getD_eq_getD_getElem?, List.getElem?_toArray, List.getElem?_cons_succ, List.getElem?_cons_zero, Option.getD_some]; rfl)); (simp only [Act.put, List.setIfInBounds_toArray, List.set_cons_zero, List.set_cons_succ]))
          refine wpO_bsR rfl rfl rfl bs_edg8 rfl (fun p => ⟨[_, _], rfl⟩) ?_
          intro pf
          (simp only [Act.put, List.setIfInBounds_toArray, List.set_cons_zero, List.set_cons_succ])
          refine wpO_append slE rfl rfl rfl rfl (.there .here) List.mem_cons_self rfl rfl (edgC_one8 _ _ _) hn1 hn2 (fun v => ⟨[_, _], rfl⟩) ?_
          intro v2
          (simp only [Act.put, List.setIfInBounds_toArray, List.set_cons_zero, List.set_cons_succ])
          (apply wpO_step; (· rfl); (· rfl); (· rfl); (· exact Nat.le_of_ble_eq_true rfl); (· rintro l0 ⟨pre, rfl⟩ w0 H0; (first | go_big_quiet_skip | fail | go_big_quiet_step (fail)); (refine wpQuiet_nil ?_); (simp only [Array.getD_eq_getD_getElem?, List.getElem?_toArray, List.getElem?_cons_succ, List.getElem?_cons_zero, Option.getD_some]; rfl)); (simp only [Act.put, List.setIfInBounds_toArray, List.set_cons_zero, List.set_cons_succ]))
          (refine wpO_nil ?_; clear H; intro _ H)
          replace H := H.drop (.there .here)
          go_wp2_with (first | go_skip | ((with_reducible show wpList _ _ _ (_ :: _) _ _); (with_reducible apply wpl_loadCH); (· exact cell_i64); (· rfl); (· rfl); (· exact H); (· exact List.mem_cons_of_mem _ hm); (· (with_reducible first | exact dbt_g0 .. | exact dbt_g1 .. | exact dbt_g2 .. | exact dbt_g3 ..)); (simp only [Act.put, List.setIfInBounds_toArray, List.set_cons_zero, List.set_cons_succ])))
          refine wp_region_O [12, 13] [0, 1, 2, 3, 4, 5, 6, 7, 8, 9, 10, 11, 12, 13, 14] (fun l0 => ∃ pre, l0 = pre ++ l) H ⟨[_], rfl⟩ (by kernel_rfl) (by kernel_rfl) ?_
          iterate 12 (apply wpO_step; (· rfl); (· rfl); (· rfl); (· exact Nat.le_of_ble_eq_true rfl); (· rintro l0 ⟨pre, rfl⟩ w0 H0; (first | go_big_quiet_skip | ((with_reducible apply wpQ_loadCH); (· exact cell_party); (· rfl); (· rfl); (· exact List.mem_append_right _ hm); (· (with_reducible first | exact dbt_g0 .. | exact dbt_g1 .. | exact dbt_g2 .. | exact dbt_g3 ..)); (simp only [Act.put, List.setIfInBounds_toArray, List.set_cons_zero, List.set_cons_succ])) | go_big_quiet_step (fail)); (refine wpQuiet_nil ?_); (simp only [Array.getD_eq_getD_getElem?, List.getElem?_toArray, List.getElem?_cons_succ, List.getElem?_cons_zero, Option.getD_some]; rfl)); (simp only [Act.put, List.setIfInBounds_toArray, List.set_cons_zero, List.set_cons_succ]))
          refine wpO_bsR rfl rfl rfl bs_edg8 rfl (fun p => ⟨[_, _], rfl⟩) ?_
          intro pf
          (simp only [Act.put, List.setIfInBounds_toArray, List.set_cons_zero, List.set_cons_succ])
          refine wpO_append slE rfl rfl rfl rfl (.there .here) List.mem_cons_self rfl rfl (edgC_one8 _ _ _) hn3 hn4 (fun v => ⟨[_, _], rfl⟩) ?_
          intro v2
          (simp only [Act.put, List.setIfInBounds_toArray, List.set_cons_zero, List.set_cons_succ])
          (apply wpO_step; (· rfl); (· rfl); (· rfl); (· exact Nat.le_of_ble_eq_true rfl); (· rintro l0 ⟨pre, rfl⟩ w0 H0; (first | go_big_quiet_skip | fail | go_big_quiet_step (fail)); (refine wpQuiet_nil ?_); (simp only [Array.getD_eq_getD_getElem?, List.getElem?_toArray, List.getElem?_cons_succ, List.getElem?_cons_zero, Option.getD_some]; rfl)); (simp only [Act.put, List.setIfInBounds_toArray, List.set_cons_zero, List.set_cons_succ]))
          (refine wpO_nil ?_; clear H; intro _ H)
          replace H := H.drop (.there .here)
          go_wp2_with (first | go_skip | ((with_reducible show wpList _ _ _ (_ :: _) _ _); (with_reducible apply wpl_loadCH); (· exact cell_i64); (· rfl); (· rfl); (· exact H); (· exact List.mem_cons_of_mem _ hm); (· (with_reducible first | exact dbt_g0 .. | exact dbt_g1 .. | exact dbt_g2 .. | exact dbt_g3 ..)); (simp only [Act.put, List.setIfInBounds_toArray, List.set_cons_zero, List.set_cons_succ])))
          refine ⟨⟨k + 1, by omega, by go_num, ?_⟩, ?measure1⟩
          case measure1 => simp [intOf]; omega
          rw [HTK.out, HX.out, edgL_app, List.length_append, HNE.out]
          simpa [edgL, edgV, edg] using H
        · have d1 : decide (kk > 0) = false := decide_eq_false (by omega)
          have hX : edX ⟨f, t, y⟩ m = [⟨f, t, -1⟩] := by unfold edX; rw [if_pos (by omega), if_neg (by simp only; omega)]; rfl
          have HX := Lib.hid hX
          clear hX
          go_wp2_with (first | go_skip | ((with_reducible show wpList _ _ _ (_ :: _) _ _); (with_reducible apply wpl_loadCH); (· exact cell_i64); (· rfl); (· rfl); (· exact H); (· exact List.mem_cons_of_mem _ hm); (· (with_reducible first | exact dbt_g0 .. | exact dbt_g1 .. | exact dbt_g2 .. | exact dbt_g3 ..)); (simp only [Act.put, List.setIfInBounds_toArray, List.set_cons_zero, List.set_cons_succ])))
          refine wp_region_O [12, 13] [0, 1, 2, 3, 4, 5, 6, 7, 8, 9, 10, 11, 12, 13, 14] (fun l0 => ∃ pre, l0 = pre ++ l) H ⟨[_], rfl⟩ (by kernel_rfl) (by kernel_rfl) ?_
          iterate 12 (apply wpO_step; (· rfl); (· rfl); (· rfl); (· exact Nat.le_of_ble_eq_true rfl); (· rintro l0 ⟨pre, rfl⟩ w0 H0; (first | go_big_quiet_skip | ((with_reducible apply wpQ_loadCH); (· exact cell_party); (· rfl); (· rfl); (· exact List.mem_append_right _ hm); (· (with_reducible first | exact dbt_g0 .. | exact dbt_g1 .. | exact dbt_g2 .. | exact dbt_g3 ..)); (simp only [Act.put, List.setIfInBounds_toArray, List.set_cons_zero, List.set_cons_succ])) | go_big_quiet_step (fail)); (refine wpQuiet_nil ?_); (simp only [Array.getD_eq_getD_getElem?, List.getElem?_toArray, List.getElem?_cons_succ, List.getElem?_cons_zero, Option.getD_some]; rfl)); (simp only [Act.put, List.setIfInBounds_toArray, List.set_cons_zero, List.set_cons_succ]))
          refine wpO_bsR rfl rfl rfl bs_edg8 rfl (fun p => ⟨[_, _], rfl⟩) ?_
          intro pf
          (simp only [Act.put, List.setIfInBounds_toArray, List.set_cons_zero, List.set_cons_succ])
          refine wpO_append slE rfl rfl rfl rfl (.there .here) List.mem_cons_self rfl rfl (edgC_one8 _ _ _) hn1 hn2 (fun v => ⟨[_, _], rfl⟩) ?_
          intro v2
          (simp only [Act.put, List.setIfInBounds_toArray, List.set_cons_zero, List.set_cons_succ])
          (apply wpO_step; (· rfl); (· rfl); (· rfl); (· exact Nat.le_of_ble_eq_true rfl); (· rintro l0 ⟨pre, rfl⟩ w0 H0; (first | go_big_quiet_skip | fail | go_big_quiet_step (fail)); (refine wpQuiet_nil ?_); (simp only [Array.getD_eq_getD_getElem?, List.getElem?_toArray, List.getElem?_cons_succ, List.getElem?_cons_zero, Option.getD_some]; rfl)); (simp only [Act.put, List.setIfInBounds_toArray, List.set_cons_zero, List.set_cons_succ]))
          (refine wpO_nil ?_; clear H; intro _ H)
          replace H := H.drop (.there .here)
          go_wp2_with (first | go_skip | ((with_reducible show wpList _ _ _ (_ :: _) _ _); (with_reducible apply wpl_loadCH); (· exact cell_i64); (· rfl); (· rfl); (· exact H); (· exact List.mem_cons_of_mem _ hm); (· (with_reducible first | exact dbt_g0 .. | exact dbt_g1 .. | exact dbt_g2 .. | exact dbt_g3 ..)); (simp only [Act.put, List.setIfInBounds_toArray, List.set_cons_zero, List.set_cons_succ])))
          refine ⟨⟨k + 1, by omega, by go_num, ?_⟩, ?measure2⟩
          case measure2 => simp [intOf]; omega
          rw [HTK.out, HX.out, edgL_app, List.length_append, HNE.out]
          simpa [edgL, edgV, edg] using H
      · have d0 : decide (m > 0) = false := decide_eq_false (by omega)
        by_cases h1 : 0 < kk
        · have d1 : decide (kk > 0) = true := decide_eq_true (by omega)
          have hX : edX ⟨f, t, y⟩ m = [⟨t, f, 1⟩] := by unfold edX; rw [if_neg (by omega), if_pos (by simp only; omega)]; rfl
          have HX := Lib.hid hX
          clear hX
          go_wp2_with (first | go_skip | ((with_reducible show wpList _ _ _ (_ :: _) _ _); (with_reducible apply wpl_loadCH); (· exact cell_i64); (· rfl); (· rfl); (· exact H); (· exact List.mem_cons_of_mem _ hm); (· (with_reducible first | exact dbt_g0 .. | exact dbt_g1 .. | exact dbt_g2 .. | exact dbt_g3 ..)); (simp only [Act.put, List.setIfInBounds_toArray, List.set_cons_zero, List.set_cons_succ])))
          refine wp_region_O [12, 13] [0, 1, 2, 3, 4, 5, 6, 7, 8, 9, 10, 11, 12, 13, 14] (fun l0 => ∃ pre, l0 = pre ++ l) H ⟨[_], rfl⟩ (by kernel_rfl) (by kernel_rfl) ?_
          iterate 12 (apply wpO_step; (· rfl); (· rfl); (· rfl); (· exact Nat.le_of_ble_eq_true rfl); (· rintro l0 ⟨pre, rfl⟩ w0 H0; (first | go_big_quiet_skip | ((with_reducible apply wpQ_loadCH); (· exact cell_party); (· rfl); (· rfl); (· exact List.mem_append_right _ hm); (· (with_reducible first | exact dbt_g0 .. | exact dbt_g1 .. | exact dbt_g2 .. | exact dbt_g3 ..)); (simp only [Act.put, List.setIfInBounds_toArray, List.set_cons_zero, List.set_cons_succ])) | go_big_quiet_step (fail)); (refine wpQuiet_nil ?_); (simp only [Array.getD_eq_getD_getElem?, List.getElem?_toArray, List.getElem?_cons_succ, List.getElem?_cons_zero, Option.getD_some]; rfl)); (simp only [Act.put, List.setIfInBounds_toArray, List.set_cons_zero, List.set_cons_succ]))
          refine wpO_bsR rfl rfl rfl bs_edg8 rfl (fun p => ⟨[_, _], rfl⟩) ?_
          intro pf
          (simp only [Act.put, List.setIfInBounds_toArray, List.set_cons_zero, List.set_cons_succ])
          refine wpO_append slE rfl rfl rfl rfl (.there .here) List.mem_cons_self rfl rfl (edgC_one8 _ _ _) hn1 hn2 (fun v => ⟨[_, _], rfl⟩) ?_
          intro v2
          (simp only [Act.put, List.setIfInBounds_toArray, List.set_cons_zero, List.set_cons_succ])
          (apply wpO_step; (· rfl); (· rfl); (· rfl); (· exact Nat.le_of_ble_eq_true rfl); (· rintro l0 ⟨pre, rfl⟩ w0 H0; (first | go_big_quiet_skip | fail | go_big_quiet_step (fail)); (refine wpQuiet_nil ?_); (simp only [Array.getD_eq_getD_getElem?, List.getElem?_toArray, List.getElem?_cons_succ, List.getElem?_cons_zero, Option.getD_some]; rfl)); (simp only [Act.put, List.setIfInBounds_toArray, List.set_cons_zero, List.set_cons_succ]))
          (refine wpO_nil ?_; clear H; intro _ H)
          replace H := H.drop (.there .here)
          go_wp2_with (first | go_skip | ((with_reducible show wpList _ _ _ (_ :: _) _ _); (with_reducible apply wpl_loadCH); (· exact cell_i64); (· rfl); (· rfl); (· exact H); (· exact List.mem_cons_of_mem _ hm); (· (with_reducible first | exact dbt_g0 .. | exact dbt_g1 .. | exact dbt_g2 .. | exact dbt_g3 ..)); (simp only [Act.put, List.setIfInBounds_toArray, List.set_cons_zero, List.set_cons_succ])))
          refine ⟨⟨k + 1, by omega, by go_num, ?_⟩, ?measure3⟩
          case measure3 => simp [intOf]; omega
          rw [HTK.out, HX.out, edgL_app, List.length_append, HNE.out]
          simpa [edgL, edgV, edg] using H
        · have d1 : decide (kk > 0) = false := decide_eq_false (by omega)
          have hX : edX ⟨f, t, y⟩ m = [] := by unfold edX; rw [if_neg (by omega), if_neg (by simp only; omega)]; rfl
          have HX := Lib.hid hX
          clear hX
          go_wp2_with (first | go_skip | ((with_reducible show wpList _ _ _ (_ :: _) _ _); (with_reducible apply wpl_loadCH); (· exact cell_i64); (· rfl); (· rfl); (· exact H); (· exact List.mem_cons_of_mem _ hm); (· (with_reducible first | exact dbt_g0 .. | exact dbt_g1 .. | exact dbt_g2 .. | exact dbt_g3 ..)); (simp only [Act.put, List.setIfInBounds_toArray, List.set_cons_zero, List.set_cons_succ])))
          refine ⟨⟨k + 1, by omega, by go_num, ?_⟩, ?measure4⟩
          case measure4 => simp [intOf]; omega
          rw [HTK.out, HX.out, edgL_app, List.length_append, HNE.out]
          simpa [edgL] using H
    · obtain rfl : k = n := by omega
      rw [List.take_of_length_le (by rw [HP.out.2.1]; exact Nat.le_refl _), List.take_of_length_le (by rw [HP.out.2.2]; exact Nat.le_refl _)] at H
      go_wp2_with (go_skip)
      go_ret
      exact ⟨_, rfl, H⟩
end
end Go.Proofs.Ytbmmdfjabkpoeaa

/- rounds: a step of a round. -/
namespace Go.Proofs.Ytbmmdfjabkpoeaa
open Go.RowKit
set_option linter.unusedSimpArgs false
set_option linter.unusedVariables false
def fwdAt (F : List Flw) (N : List Int) (a b j : Nat) : Prop := ∃ (x : Flw) (m : Int), F[j]? = some x ∧ N[j]? = some m ∧ x.f = a ∧ x.t = b ∧ 0 < m
def bckAt (F : List Flw) (N : List Int) (a b j : Nat) : Prop := ∃ (x : Flw) (m : Int), F[j]? = some x ∧ N[j]? = some m ∧ x.f = b ∧ x.t = a ∧ m < x.n
def stp0 : Array Value := #[.pointer none, .bool false]
theorem row_stp : RowTy 88 2 stp0 := ⟨⟨_, Try.underlying88, rfl⟩, by kernel_rfl, by kernel_rfl⟩
/-- What is found so far. -/
def StpC (F : List Flw) (N : List Int) (a b : Nat) (ps : List Nat) (k : Nat) (c : Array Value) : Prop := (c = stp0 ∧ ∀ j, j < k → ¬ bckAt F N a b j) ∨ (∃ j p, j < k ∧ bckAt F N a b j ∧ ps[j]? = some p ∧ c = stp p true)
structure StpR (W : World) (l : List Thing) (F : List Flw) (N : List Int) (a b : Nat) (ps : List Nat) (q n : Nat) (i : Value) (wr : World) : Prop where
  out : ∃ (k : Nat) (c : Array Value), k ≤ n ∧ i = .int .i64 (k : Int) ∧ (∀ j, j < k → ¬ fwdAt F N a b j) ∧ StpC F N a b ps k c ∧ c.size = 2 ∧ Heap W (Cel q c 88 :: l) wr
theorem StpC.size {F : List Flw} {N : List Int} {a b : Nat} {ps : List Nat} {k : Nat} {c : Array Value} (h : StpC F N a b ps k c) : c.size = 2 := by
  rcases h with ⟨rfl, _⟩ | ⟨j, p, _, _, _, rfl⟩ <;> rfl
theorem StpC.keep {F : List Flw} {N : List Int} {a b : Nat} {ps : List Nat} {k : Nat} {c : Array Value} (h : StpC F N a b ps k c) (hn : ¬ bckAt F N a b k) : StpC F N a b ps (k + 1) c := by
  rcases h with ⟨h1, h2⟩ | ⟨j, p, h1, h2⟩
  · exact .inl ⟨h1, fun j hj => by
      by_cases e : j = k
      · subst e; exact hn
      · exact h2 j (by omega)⟩
  · exact .inr ⟨j, p, by omega, h2⟩
theorem fwd_next {F : List Flw} {N : List Int} {a b k : Nat} (h : ∀ j, j < k → ¬ fwdAt F N a b j) (hn : ¬ fwdAt F N a b k) : ∀ j, j < k + 1 → ¬ fwdAt F N a b j := fun j hj => by
  by_cases e : j = k
  · subst e; exact hn
  · exact h j (by omega)
theorem StpC.end {F : List Flw} {N : List Int} (hM : MayD F) {a b i n : Nat} {back : Bool} {ps : List Nat} {p : Nat} {c : Array Value} (hl : F.length = n) (hS : StepIs F N a b i back) (hp : ps[i]? = some p) (h1 : ∀ j, j < n → ¬ fwdAt F N a b j) (h2 : StpC F N a b ps n c) : c = stp p back := by
  obtain ⟨x, m, x1, x2, ⟨rfl, x3, x4, x5⟩ | ⟨rfl, x3, x4, x5, _⟩⟩ := hS
  · exact absurd ⟨x, m, x1, x2, x3, x4, x5⟩ (h1 i (by rw [← hl]; exact (List.getElem?_eq_some_iff.1 x1).1))
  · rcases h2 with ⟨_, h2⟩ | ⟨j, p', _, ⟨y, k, y1, y2, y3, y4, y5⟩, h3, rfl⟩
    · exact absurd ⟨x, m, x1, x2, x3, x4, x5⟩ (h2 i (by rw [← hl]; exact (List.getElem?_eq_some_iff.1 x1).1))
    · obtain rfl := hM.uniq x1 y1 (by omega) (by omega)
      rw [hp] at h3
      cases h3
      rfl
theorem fwd_is {F : List Flw} {N : List Int} (hM : MayD F) {a b i k : Nat} {back : Bool} (hS : StepIs F N a b i back) (h : fwdAt F N a b k) : i = k ∧ back = false := by
  obtain ⟨x, m, h1, h2, h3, h4, h5⟩ := h
  exact hS.det hM ⟨x, m, h1, h2, .inl ⟨rfl, h3, h4, h5⟩⟩

theorem stp_cells (p : Nat) (b : Bool) : Cells 2 #[.pointer (some ⟨p, 0, none⟩), .bool b] := ⟨rfl, by simp [Value.oneCell']⟩
theorem stp_all (p : Nat) (b : Bool) : (stp p b).extract 0 (0 + 2) = stp p b := by simp [stp]
theorem stp_cells2 (p : Nat) (b : Bool) : Cells 2 (stp p b) := stp_cells p b
theorem stp_splice2 (p : Nat) (b : Bool) : splice (stp p b) 0 (stp p b) = stp p b := splice_all rfl
theorem stp_splice {c : Array Value} (h : c.size = 2) (p : Nat) (b : Bool) : splice c 0 #[.pointer (some ⟨p, 0, none⟩), .bool b] = stp p b := splice_all (by rw [h]; rfl)
section
variable {W w : World} {l : List Thing}
set_option maxRecDepth 100000
set_option maxHeartbeats 8000000
theorem step8_H (ea : Option Addr) (n c : Nat) (ps : List Nat) (F : List Flw) (N : List Int) (hM : MayD F) (hp : ps.length = n) (hf : F.length = n) (hN : N.length = n) (hn : n ≤ 1000)
    (R : ∀ l' w', (∀ x ∈ l, x ∈ l') → Heap W l' w' → Rd w' ea (ptrL ps)) (D : ∀ (i p : Nat) (x : Flw) (m : Int), ps[i]? = some p → F[i]? = some x → N[i]? = some m → debtT p x m ∈ l)
    (a b i0 p0 : Nat) (back : Bool) (hS : StepIs F N a b i0 back) (hp0 : ps[i0]? = some p0) :
    AnsH W l 42 #[.slice ea n c, .int .u8 (a : Int), .int .u8 (b : Int)] (.agg (stp p0 back)) := by
  intro w H
  have HP := Lib.hid (And.intro hp (And.intro hf hN))
  have HD := Lib.hid D
  have HR := Lib.hid R
  have HE := Lib.hid (fun c (h1 : ∀ j, j < n → ¬ fwdAt F N a b j) (h2 : StpC F N a b ps n c) => StpC.end hM hf hS hp0 h1 h2)
  have HW := Lib.hid (fun k (h : fwdAt F N a b k) => fwd_is hM hS h)
  have HP0 := Lib.hid hp0
  have hab : a ≠ b := by
    obtain ⟨x, m, x1, _, x3⟩ := hS
    have := (hM.okX x1).2.2.2.2.1
    rcases x3 with ⟨_, x3, x4, _⟩ | ⟨_, x3, x4, _⟩ <;> omega
  have HOK := Lib.hid (fun (i : Nat) (x : Flw) (h : F[i]? = some x) => (hM.okX h).2.2.2.2.1)
  clear hp hf hN D R hM hS hp0
  go_enter Try.func42, Try.ntmps42
  go_wp2_with (first | go_skip | ((with_reducible show wpList _ _ _ (_ :: _) _ _); (with_reducible apply wpl_allocRH row_stp); (· rfl); (· exact H); (clear H; intro q _ H); (simp only [Act.put, List.setIfInBounds_toArray, List.set_cons_zero, List.set_cons_succ])))
  have H0 := H
  clear H
  go_loopw [11] (fun i wr => StpR W l F N a b ps q n i wr) (fun i _ => n - (intOf i).toNat)
  case atStart => exact ⟨0, stp0, Nat.zero_le _, rfl, fun j hj => absurd hj (by omega), .inl ⟨rfl, fun j hj => absurd hj (by omega)⟩, rfl, H0⟩
  case round =>
    obtain ⟨k, cc, hk, rfl, hno, hcc, hsz, H⟩ := hrel.out
    clear H0 hrel
    have HNO := Lib.hid hno
    have HCC := Lib.hid hcc
    clear hno hcc
    by_cases hlt : k < n
    · have hpk : ps[k]? = some (ps[k]'(by rw [HP.out.1]; exact hlt)) := List.getElem?_eq_getElem _
      have hfk : F[k]? = some (F[k]'(by rw [HP.out.2.1]; exact hlt)) := List.getElem?_eq_getElem _
      have hnk : N[k]? = some (N[k]'(by rw [HP.out.2.2]; exact hlt)) := List.getElem?_eq_getElem _
      generalize ps[k]'(by rw [HP.out.1]; exact hlt) = p at *
      generalize F[k]'(by rw [HP.out.2.1]; exact hlt) = x at *
      generalize N[k]'(by rw [HP.out.2.2]; exact hlt) = m at *
      have hm : debtT p x m ∈ l := HD.out k p x m hpk hfk hnk
      have Rw := HR.out _ wr (fun x hx => List.mem_cons_of_mem _ hx) H
      obtain ⟨eb, eo, rfl, _⟩ := Rw.lt (by rw [ptrL_len, HP.out.1]; omega)
      have hc : wr.cell? ⟨eb, eo + k, none⟩ = some (.pointer (some ⟨p, 0, none⟩)) := by
        have := Rw.get (i := k) (by rw [ptrL_len, HP.out.1]; exact hlt)
        simpa [ptrL, List.getElem_map, (List.getElem?_eq_some_iff.1 hpk).2] using this
      have HPK := Lib.hid hpk
      have hft := HOK.out k x hfk
      have HF := Lib.hid (show fwdAt F N a b k ↔ (x.f = a ∧ x.t = b ∧ 0 < m) from ⟨fun ⟨y, j, h1, h2, h3⟩ => by rw [hfk] at h1; rw [hnk] at h2; cases h1; cases h2; exact h3, fun h => ⟨x, m, hfk, hnk, h⟩⟩)
      have HB := Lib.hid (show bckAt F N a b k ↔ (x.f = b ∧ x.t = a ∧ m < x.n) from ⟨fun ⟨y, j, h1, h2, h3⟩ => by rw [hfk] at h1; rw [hnk] at h2; cases h1; cases h2; exact h3, fun h => ⟨x, m, hfk, hnk, h⟩⟩)
      clear hpk hfk hnk Rw
      obtain ⟨f, t, y⟩ := x
      unfold debtT at hm
      simp only at hm HF HB hft
      obtain ⟨kk, hkk⟩ : ∃ kk, y - m = kk := ⟨_, rfl⟩
      rw [hkk] at hm
      by_cases u1 : f = a
      · have e1 : ((f : Int) == (a : Int)) = true := by simp; omega
        by_cases u2 : t = b
        · have e2 : ((t : Int) == (b : Int)) = true := by simp; omega
          by_cases u3 : 0 < m
          · have e3 : decide (m > 0) = true := decide_eq_true u3
            obtain ⟨hi, hb⟩ := HW.out k (HF.out.2 ⟨u1, u2, u3⟩)
            subst hi hb
            obtain rfl : p0 = p := Option.some.inj (HP0.out.symm.trans HPK.out)
            clear u1 u2 u3
            go_wp2_with (first | go_skip | ((with_reducible show wpList _ _ _ (_ :: _) _ _); (with_reducible apply wpl_loadCH); (· first | exact cell_party | exact cell_i64); (· rfl); (· rfl); (· exact H); (· exact List.mem_cons_of_mem _ hm); (· (with_reducible first | exact dbt_g0 .. | exact dbt_g1 .. | exact dbt_g2 .. | exact dbt_g3 ..)); (simp only [Act.put, List.setIfInBounds_toArray, List.set_cons_zero, List.set_cons_succ])) | ((with_reducible show wpList _ _ _ (_ :: _) _ _); (with_reducible apply wpl_storeRH row_stp); (· rfl); (· rfl); (· rfl); (· with_reducible exact stp_cells ..); (· exact H); (· (repeat (first | (with_reducible exact List.mem_cons_self) | with_reducible apply List.mem_cons_of_mem))); (· (simp only [hsz, Nat.reduceAdd, Nat.reduceLeDiff, Nat.le_refl]; done)); (· with_reducible exact stp_splice hsz ..); (· (repeat (first | (with_reducible exact Repl.here) | with_reducible apply Repl.there))); (clear H; intro _ H); (simp only [Act.put, List.setIfInBounds_toArray, List.set_cons_zero, List.set_cons_succ])))
            exact ret_row1H row_stp rfl rfl rfl H List.mem_cons_self rfl ⟨rfl, H.tail⟩
          · have e3 : decide (m > 0) = false := decide_eq_false u3
            have HNF := Lib.hid (show ¬ fwdAt F N a b k from fun h => u3 (HF.out.1 h).2.2)
            by_cases v1 : f = b
            · exact absurd (v1.trans u2.symm) hft
            · have r1 : ((f : Int) == (b : Int)) = false := by simp; omega
              have HNB := Lib.hid (show ¬ bckAt F N a b k from fun h => v1 (HB.out.1 h).1)
              go_wp2_with (first | go_skip | ((with_reducible show wpList _ _ _ (_ :: _) _ _); (with_reducible apply wpl_loadCH); (· first | exact cell_party | exact cell_i64); (· rfl); (· rfl); (· exact H); (· exact List.mem_cons_of_mem _ hm); (· (with_reducible first | exact dbt_g0 .. | exact dbt_g1 .. | exact dbt_g2 .. | exact dbt_g3 ..)); (simp only [Act.put, List.setIfInBounds_toArray, List.set_cons_zero, List.set_cons_succ])) | ((with_reducible show wpList _ _ _ (_ :: _) _ _); (with_reducible apply wpl_storeRH row_stp); (· rfl); (· rfl); (· rfl); (· with_reducible exact stp_cells ..); (· exact H); (· (repeat (first | (with_reducible exact List.mem_cons_self) | with_reducible apply List.mem_cons_of_mem))); (· (simp only [hsz, Nat.reduceAdd, Nat.reduceLeDiff, Nat.le_refl]; done)); (· with_reducible exact stp_splice hsz ..); (· (repeat (first | (with_reducible exact Repl.here) | with_reducible apply Repl.there))); (clear H; intro _ H); (simp only [Act.put, List.setIfInBounds_toArray, List.set_cons_zero, List.set_cons_succ])))
              refine ⟨⟨k + 1, _, by omega, by go_num, fwd_next HNO.out HNF.out, HCC.out.keep HNB.out, hsz, H⟩, ?measure1⟩
              case measure1 => simp [intOf]; omega
        · have e2 : ((t : Int) == (b : Int)) = false := by simp; omega
          have HNF := Lib.hid (show ¬ fwdAt F N a b k from fun h => u2 (HF.out.1 h).2.1)
          by_cases v1 : f = b
          · exact absurd (u1.symm.trans v1) hab
          · have r1 : ((f : Int) == (b : Int)) = false := by simp; omega
            have HNB := Lib.hid (show ¬ bckAt F N a b k from fun h => v1 (HB.out.1 h).1)
            go_wp2_with (first | go_skip | ((with_reducible show wpList _ _ _ (_ :: _) _ _); (with_reducible apply wpl_loadCH); (· first | exact cell_party | exact cell_i64); (· rfl); (· rfl); (· exact H); (· exact List.mem_cons_of_mem _ hm); (· (with_reducible first | exact dbt_g0 .. | exact dbt_g1 .. | exact dbt_g2 .. | exact dbt_g3 ..)); (simp only [Act.put, List.setIfInBounds_toArray, List.set_cons_zero, List.set_cons_succ])) | ((with_reducible show wpList _ _ _ (_ :: _) _ _); (with_reducible apply wpl_storeRH row_stp); (· rfl); (· rfl); (· rfl); (· with_reducible exact stp_cells ..); (· exact H); (· (repeat (first | (with_reducible exact List.mem_cons_self) | with_reducible apply List.mem_cons_of_mem))); (· (simp only [hsz, Nat.reduceAdd, Nat.reduceLeDiff, Nat.le_refl]; done)); (· with_reducible exact stp_splice hsz ..); (· (repeat (first | (with_reducible exact Repl.here) | with_reducible apply Repl.there))); (clear H; intro _ H); (simp only [Act.put, List.setIfInBounds_toArray, List.set_cons_zero, List.set_cons_succ])))
            refine ⟨⟨k + 1, _, by omega, by go_num, fwd_next HNO.out HNF.out, HCC.out.keep HNB.out, hsz, H⟩, ?measure2⟩
            case measure2 => simp [intOf]; omega
      · have e1 : ((f : Int) == (a : Int)) = false := by simp; omega
        have HNF := Lib.hid (show ¬ fwdAt F N a b k from fun h => u1 (HF.out.1 h).1)
        by_cases v1 : f = b
        · have r1 : ((f : Int) == (b : Int)) = true := by simp; omega
          by_cases v2 : t = a
          · have r2 : ((t : Int) == (a : Int)) = true := by simp; omega
            by_cases v3 : 0 < kk
            · have r3 : decide (kk > 0) = true := decide_eq_true v3
              have HNB := Lib.hid (show bckAt F N a b k from HB.out.2 ⟨v1, v2, by omega⟩)
              go_wp2_with (first | go_skip | ((with_reducible show wpList _ _ _ (_ :: _) _ _); (with_reducible apply wpl_loadCH); (· first | exact cell_party | exact cell_i64); (· rfl); (· rfl); (· exact H); (· exact List.mem_cons_of_mem _ hm); (· (with_reducible first | exact dbt_g0 .. | exact dbt_g1 .. | exact dbt_g2 .. | exact dbt_g3 ..)); (simp only [Act.put, List.setIfInBounds_toArray, List.set_cons_zero, List.set_cons_succ])) | ((with_reducible show wpList _ _ _ (_ :: _) _ _); (with_reducible apply wpl_storeRH row_stp); (· rfl); (· rfl); (· rfl); (· with_reducible exact stp_cells ..); (· exact H); (· (repeat (first | (with_reducible exact List.mem_cons_self) | with_reducible apply List.mem_cons_of_mem))); (· (simp only [hsz, Nat.reduceAdd, Nat.reduceLeDiff, Nat.le_refl]; done)); (· with_reducible exact stp_splice hsz ..); (· (repeat (first | (with_reducible exact Repl.here) | with_reducible apply Repl.there))); (clear H; intro _ H); (simp only [Act.put, List.setIfInBounds_toArray, List.set_cons_zero, List.set_cons_succ])))
              refine ⟨⟨k + 1, _, by omega, by go_num, fwd_next HNO.out HNF.out, .inr ⟨k, p, by omega, HNB.out, HPK.out, rfl⟩, rfl, H⟩, ?measure3⟩
              case measure3 => simp [intOf]; omega
            · have r3 : decide (kk > 0) = false := decide_eq_false v3
              have HNB := Lib.hid (show ¬ bckAt F N a b k from fun h => by have := (HB.out.1 h).2.2; omega)
              go_wp2_with (first | go_skip | ((with_reducible show wpList _ _ _ (_ :: _) _ _); (with_reducible apply wpl_loadCH); (· first | exact cell_party | exact cell_i64); (· rfl); (· rfl); (· exact H); (· exact List.mem_cons_of_mem _ hm); (· (with_reducible first | exact dbt_g0 .. | exact dbt_g1 .. | exact dbt_g2 .. | exact dbt_g3 ..)); (simp only [Act.put, List.setIfInBounds_toArray, List.set_cons_zero, List.set_cons_succ])) | ((with_reducible show wpList _ _ _ (_ :: _) _ _); (with_reducible apply wpl_storeRH row_stp); (· rfl); (· rfl); (· rfl); (· with_reducible exact stp_cells ..); (· exact H); (· (repeat (first | (with_reducible exact List.mem_cons_self) | with_reducible apply List.mem_cons_of_mem))); (· (simp only [hsz, Nat.reduceAdd, Nat.reduceLeDiff, Nat.le_refl]; done)); (· with_reducible exact stp_splice hsz ..); (· (repeat (first | (with_reducible exact Repl.here) | with_reducible apply Repl.there))); (clear H; intro _ H); (simp only [Act.put, List.setIfInBounds_toArray, List.set_cons_zero, List.set_cons_succ])))
              refine ⟨⟨k + 1, _, by omega, by go_num, fwd_next HNO.out HNF.out, HCC.out.keep HNB.out, hsz, H⟩, ?measure4⟩
              case measure4 => simp [intOf]; omega
          · have r2 : ((t : Int) == (a : Int)) = false := by simp; omega
            have HNB := Lib.hid (show ¬ bckAt F N a b k from fun h => v2 (HB.out.1 h).2.1)
            go_wp2_with (first | go_skip | ((with_reducible show wpList _ _ _ (_ :: _) _ _); (with_reducible apply wpl_loadCH); (· first | exact cell_party | exact cell_i64); (· rfl); (· rfl); (· exact H); (· exact List.mem_cons_of_mem _ hm); (· (with_reducible first | exact dbt_g0 .. | exact dbt_g1 .. | exact dbt_g2 .. | exact dbt_g3 ..)); (simp only [Act.put, List.setIfInBounds_toArray, List.set_cons_zero, List.set_cons_succ])) | ((with_reducible show wpList _ _ _ (_ :: _) _ _); (with_reducible apply wpl_storeRH row_stp); (· rfl); (· rfl); (· rfl); (· with_reducible exact stp_cells ..); (· exact H); (· (repeat (first | (with_reducible exact List.mem_cons_self) | with_reducible apply List.mem_cons_of_mem))); (· (simp only [hsz, Nat.reduceAdd, Nat.reduceLeDiff, Nat.le_refl]; done)); (· with_reducible exact stp_splice hsz ..); (· (repeat (first | (with_reducible exact Repl.here) | with_reducible apply Repl.there))); (clear H; intro _ H); (simp only [Act.put, List.setIfInBounds_toArray, List.set_cons_zero, List.set_cons_succ])))
            refine ⟨⟨k + 1, _, by omega, by go_num, fwd_next HNO.out HNF.out, HCC.out.keep HNB.out, hsz, H⟩, ?measure5⟩
            case measure5 => simp [intOf]; omega
        · have r1 : ((f : Int) == (b : Int)) = false := by simp; omega
          have HNB := Lib.hid (show ¬ bckAt F N a b k from fun h => v1 (HB.out.1 h).1)
          go_wp2_with (first | go_skip | ((with_reducible show wpList _ _ _ (_ :: _) _ _); (with_reducible apply wpl_loadCH); (· first | exact cell_party | exact cell_i64); (· rfl); (· rfl); (· exact H); (· exact List.mem_cons_of_mem _ hm); (· (with_reducible first | exact dbt_g0 .. | exact dbt_g1 .. | exact dbt_g2 .. | exact dbt_g3 ..)); (simp only [Act.put, List.setIfInBounds_toArray, List.set_cons_zero, List.set_cons_succ])) | ((with_reducible show wpList _ _ _ (_ :: _) _ _); (with_reducible apply wpl_storeRH row_stp); (· rfl); (· rfl); (· rfl); (· with_reducible exact stp_cells ..); (· exact H); (· (repeat (first | (with_reducible exact List.mem_cons_self) | with_reducible apply List.mem_cons_of_mem))); (· (simp only [hsz, Nat.reduceAdd, Nat.reduceLeDiff, Nat.le_refl]; done)); (· with_reducible exact stp_splice hsz ..); (· (repeat (first | (with_reducible exact Repl.here) | with_reducible apply Repl.there))); (clear H; intro _ H); (simp only [Act.put, List.setIfInBounds_toArray, List.set_cons_zero, List.set_cons_succ])))
          refine ⟨⟨k + 1, _, by omega, by go_num, fwd_next HNO.out HNF.out, HCC.out.keep HNB.out, hsz, H⟩, ?measure6⟩
          case measure6 => simp [intOf]; omega
    · obtain rfl : k = n := by omega
      have hres := HE.out cc HNO.out HCC.out
      subst hres
      go_wp2_with (first | go_skip | ((with_reducible show wpList _ _ _ (_ :: _) _ _); (with_reducible apply wpl_loadRH row_stp); (· rfl); (· rfl); (· exact H); (· (repeat (first | (with_reducible exact List.mem_cons_self) | with_reducible apply List.mem_cons_of_mem))); (· (simp only [hsz, Nat.reduceAdd, Nat.reduceLeDiff, Nat.le_refl]; done)); (· with_reducible exact stp_all ..); (simp only [Act.put, List.setIfInBounds_toArray, List.set_cons_zero, List.set_cons_succ])) | ((with_reducible show wpList _ _ _ (_ :: _) _ _); (with_reducible apply wpl_storeRH row_stp); (· rfl); (· rfl); (· rfl); (· with_reducible exact stp_cells2 ..); (· exact H); (· (repeat (first | (with_reducible exact List.mem_cons_self) | with_reducible apply List.mem_cons_of_mem))); (· (simp only [hsz, Nat.reduceAdd, Nat.reduceLeDiff, Nat.le_refl]; done)); (· with_reducible exact stp_splice2 ..); (· (repeat (first | (with_reducible exact Repl.here) | with_reducible apply Repl.there))); (clear H; intro _ H); (simp only [Act.put, List.setIfInBounds_toArray, List.set_cons_zero, List.set_cons_succ])))
      exact ret_row1H row_stp rfl rfl rfl H List.mem_cons_self rfl ⟨rfl, H.tail⟩
end
end Go.Proofs.Ytbmmdfjabkpoeaa

/- rounds: one round. -/
namespace Go.Proofs.Ytbmmdfjabkpoeaa
open Go.RowKit
set_option linter.unusedSimpArgs false
set_option linter.unusedVariables false
theorem slSt8 : SlTy Try.prog 86 88 2 16 (.agg #[.pointer none, .bool false]) := slTy_mk Try.underlying86 (by kernel_rfl) rfl (by decide)
theorem stp0_sz : stp0.size = 2 := rfl
theorem stp_len (p : Nat) (b : Bool) : (stp p b).toList.length = 2 := rfl
theorem stp_size (p : Nat) (b : Bool) : (stp p b).size = 2 := rfl
/-- What the row of steps holds so far. -/
def StpIn (S : List (Nat × Bool)) (ps : List Nat) (xs : List Value) (k : Nat) : Prop := ∀ (j i : Nat) (b : Bool) (p : Nat), j < k → S[j]? = some (i, b) → ps[i]? = some p → ((xs.drop (j * 2)).take 2).toArray = stp p b
def putS (xs : List Value) (k p : Nat) (b : Bool) : List Value := xs.take (k * 2) ++ (stp p b).toList ++ xs.drop (k * 2 + 2)
theorem putS_len {xs : List Value} {k p : Nat} {b : Bool} (h : k * 2 + 2 ≤ xs.length) : (putS xs k p b).length = xs.length := by
  unfold putS
  rw [List.length_append, List.length_append, stp_len]
  simp
  omega
theorem putS_at {xs : List Value} {k p : Nat} {b : Bool} (h : k * 2 + 2 ≤ xs.length) : (((putS xs k p b).drop (k * 2)).take 2).toArray = stp p b := by
  unfold putS
  rw [List.append_assoc, List.drop_append_of_le_length (by simp; omega), List.drop_of_length_le (by simp; omega), List.nil_append, List.take_append_of_le_length (by rw [stp_len]; omega)]
  rfl
theorem StpIn.put {S : List (Nat × Bool)} {ps : List Nat} {xs : List Value} {k i p : Nat} {b : Bool} (h : StpIn S ps xs k) (hl : k * 2 + 2 ≤ xs.length) (hs : S[k]? = some (i, b)) (hp : ps[i]? = some p) : StpIn S ps (putS xs k p b) (k + 1) := by
  intro j i' b' p' hj h1 h2
  by_cases e : j = k
  · subst e
    rw [hs] at h1
    cases h1
    rw [hp] at h2
    cases h2
    exact putS_at hl
  · rw [← h j i' b' p' (by omega) h1 h2]
    congr 1
    apply List.ext_getElem?
    intro q
    rw [List.getElem?_take, List.getElem?_take]
    by_cases hq : q < 2
    · rw [if_pos hq, if_pos hq, List.getElem?_drop, List.getElem?_drop]
      unfold putS
      rw [List.append_assoc, List.getElem?_append_left (by simp; omega), List.getElem?_take, if_pos (by omega)]
    · rw [if_neg hq, if_neg hq]
structure RnA (W : World) (l : List Thing) (F : List Flw) (N : List Int) (ps : List Nat) (S : List (Nat × Bool)) (sg n : Nat) (m i : Value) (wr : World) : Prop where
  out : ∃ (k : Nat) (xs : List Value), k ≤ n ∧ i = .int .i64 (k : Int) ∧ m = .int .i64 (minS F N 1099511627776 (S.take k)) ∧ xs.length = n * 2 ∧ StpIn S ps xs k ∧ Heap W (OwnT 88 2 (.slice (some ⟨sg, 0, none⟩) n n) n xs :: l) wr
structure RnB (W : World) (l : List Thing) (F : List Flw) (N : List Int) (ps : List Nat) (S : List (Nat × Bool)) (v : Int) (sg n : Nat) (xs : List Value) (i : Value) (wr : World) : Prop where
  out : ∃ (k : Nat), k ≤ n ∧ i = .int .i64 (k : Int) ∧ Heap W (OwnT 88 2 (.slice (some ⟨sg, 0, none⟩) n n) n xs :: (dbs ps F (goS v (S.take k) N) ++ l)) wr
theorem nodup_before {S : List (Nat × Bool)} (h : (S.map Prod.fst).Nodup) {k i : Nat} {b : Bool} (hk : S[k]? = some (i, b)) : ∀ x ∈ S.take k, x.1 ≠ i := by
  intro x hx he
  obtain ⟨j, hj, rfl⟩ := List.mem_iff_getElem.1 hx
  rw [List.length_take] at hj
  have h1 : (S.map Prod.fst)[j]? = some i := by
    rw [List.getElem?_map, List.getElem?_eq_getElem (by omega)]
    simp only [List.getElem_take] at he
    simp [he]
  have h2 : (S.map Prod.fst)[k]? = some i := by rw [List.getElem?_map, hk]; rfl
  have hl : j < (S.map Prod.fst).length := by simp; omega
  have hl2 : k < (S.map Prod.fst).length := by rw [List.length_map]; exact (List.getElem?_eq_some_iff.1 hk).1
  rw [List.getElem?_eq_getElem hl] at h1
  rw [List.getElem?_eq_getElem hl2] at h2
  exact List.pairwise_iff_getElem.1 h j k hl hl2 (by omega) (Option.some.inj (h1.trans h2.symm))
section
variable {W w : World} {l : List Thing}
set_option maxRecDepth 100000
set_option maxHeartbeats 8000000
theorem mostS_H (p : Nat) (x : Flw) (m : Int) (b : Bool) {F : List Flw} {N : List Int} {i : Nat} (hx : F[i]? = some x) (hm : N[i]? = some m) (h : debtT p x m ∈ l) : AnsH W l 43 #[.agg (stp p b)] (.int .i64 (mostS F N i b)) := by
  have A := most8_H (W := W) p x.f x.t m (x.n - m) b h
  unfold mostS
  simp only [List.getD_eq_getElem?_getD, List.getElem?_map, hx, hm, Option.map_some, Option.getD_some]
  exact A
attribute [local go_sem high] run_min2
theorem round8_H (ea : Option Addr) (n c : Nat) (ps : List Nat) (F : List Flw) (N : List Int) (hM : MayD F) (I : InvN F N) (hp : ps.length = n) (hf : F.length = n) (hn : n ≤ 1000)
    (R : ∀ l' w', (∀ x ∈ l, x ∈ l') → Heap W l' w' → Rd w' ea (ptrL ps)) (ta : Option Addr) (tn tc : Nat) (T : List Nat) (S : List (Nat × Bool)) (hS : StepsAre F N T S) (h2 : ∀ x ∈ S, x.1 < F.length ∧ 1 ≤ mostS F N x.1 x.2) (h3 : (S.map Prod.fst).Nodup)
    (hT : T.length = tn) (hT1 : 1 ≤ tn) (hT2 : tn ≤ 16) (RT : ∀ l' w', (∀ x ∈ l, x ∈ l') → Heap W l' w' → Rd w' ta (T.map pv)) (H : Heap W (dbs ps F N ++ l) w) :
    Calls Try.prog 24 #[.slice ea n c, .slice ta tn tc] w fun e w' => e = .returned (.tuple #[]) ∧ Heap W (dbs ps F (goS (minS F N 1099511627776 S) S N) ++ l) w' := by
  have hN : N.length = n := I.len.trans hf
  have RW := RT _ _ (fun x hx => List.mem_append_right _ hx) H
  obtain ⟨tb, to, rfl, _⟩ := RW.lt (by simp; omega)
  have HI := Lib.hid I
  have HM := Lib.hid hM
  have HP := Lib.hid (And.intro hp (And.intro hf hN))
  have HR := Lib.hid R
  have HT := Lib.hid RT
  have HTL := Lib.hid hT
  have HS := Lib.hid hS
  have H2 := Lib.hid h2
  have H3 := Lib.hid h3
  have hSl : S.length = tn := hS.1.trans hT
  have v1 := minS_pos F N S 1099511627776 (by omega) fun x hx => (h2 x hx).2
  have v2 := (minS_le F N S 1099511627776).1
  have HV := Lib.hid (And.intro v1 v2)
  clear v1 v2 hp hf hN R RT hS h2 h3 hM I RW hT
  have hSL := Lib.hid hSl
  clear hSl
  go_enter Try.func24, Try.ntmps24
  go_wp2_with (first
    | go_skip
    | ((with_reducible show wpList _ _ _ (_ :: _) _ _); (with_reducible apply wpl_makeC slSt8 (n := tn) (m := tn)); (· rfl); (· rfl); (· rfl); (· rfl); (· exact Nat.le_refl _); (· omega); (· omega); (· exact H); (clear H; intro sg _ H); (simp only [Act.put, List.setIfInBounds_toArray, List.set_cons_zero, List.set_cons_succ])))
  replace H := H.celOwn (n := tn) (size := 2) (by rw [size_madeCells]) (by unfold maxLen; omega)
  obtain ⟨xs0, hx0⟩ : ∃ xs0, (madeCells (Value.cells (.agg #[.pointer none, .bool false])) (tn * 2)).toList = xs0 := ⟨_, rfl⟩
  have hx0l : xs0.length = tn * 2 := by rw [← hx0]; simp [size_madeCells]
  rw [hx0] at H
  clear hx0
  have H0 := H
  clear H
  go_loopw [5, 15] (fun m i wr => RnA W (dbs ps F N ++ l) F N ps S sg tn m i wr) (fun _ i _ => tn - (intOf i).toNat)
  case atStart => exact ⟨0, xs0, Nat.zero_le _, rfl, rfl, hx0l, (fun j i b p hj => absurd hj (by omega)), H0⟩
  case round =>
    obtain ⟨k, xs, hk, rfl, rfl, hxl, hin, H⟩ := hrel.out
    clear H0 hrel hx0l
    have HIN := Lib.hid hin
    clear hin
    by_cases hlt : k < tn
    · have hmn : k % tn = k := Nat.mod_eq_of_lt hlt
      have hk1 : (k + 1) % tn < tn := Nat.mod_lt _ (by omega)
      obtain ⟨i, b, s1, s2⟩ := HS.out.2 k (by rw [HTL.out]; exact hlt)
      rw [HTL.out] at s2
      obtain ⟨ta1, hta⟩ : ∃ x, T.getD k 0 = x := ⟨_, rfl⟩
      obtain ⟨tb1, htb⟩ : ∃ x, T.getD ((k + 1) % tn) 0 = x := ⟨_, rfl⟩
      rw [hta, htb] at s2
      have Rw := HT.out _ _ (fun x hx => List.mem_cons_of_mem _ (List.mem_append_right _ hx)) H
      have hTm : (T.map pv).length = tn := by simp [HTL.out]
      have c1 : wr.cell? ⟨tb, to + k, none⟩ = some (.int .u8 (ta1 : Int)) := by
        rw [Rw.get (i := k) (by omega)]
        subst hta
        simp [pv, List.getD_eq_getElem?_getD, HTL.out, hlt]
      have c2 : wr.cell? ⟨tb, to + (k + 1) % tn, none⟩ = some (.int .u8 (tb1 : Int)) := by
        rw [Rw.get (i := (k + 1) % tn) (by omega)]
        subst htb
        simp [pv, List.getD_eq_getElem?_getD, HTL.out, hk1]
      have hi := (H2.out _ (List.mem_of_getElem? s1)).1
      simp only at hi
      rw [HP.out.2.1] at hi
      have hpi : ps[i]? = some (ps[i]'(by rw [HP.out.1]; exact hi)) := List.getElem?_eq_getElem _
      have hfi : F[i]? = some (F[i]'(by rw [HP.out.2.1]; exact hi)) := List.getElem?_eq_getElem _
      have hni : N[i]? = some (N[i]'(by rw [HP.out.2.2]; exact hi)) := List.getElem?_eq_getElem _
      generalize ps[i]'(by rw [HP.out.1]; exact hi) = p at *
      generalize F[i]'(by rw [HP.out.2.1]; exact hi) = x at *
      generalize N[i]'(by rw [HP.out.2.2]; exact hi) = m at *
      have hle : k * 2 + 2 ≤ xs.length := by omega
      have hle2 : k * 2 + 2 ≤ (putS xs k p b).length := by rw [putS_len hle]; exact hle
      have A1 := fun ys => step8_H (W := W) (l := OwnT 88 2 (.slice (some ⟨sg, 0, none⟩) tn tn) tn ys :: (dbs ps F N ++ l)) ea n c ps F N HM.out HP.out.1 HP.out.2.1 HP.out.2.2 hn (fun l' w' hh H' => HR.out l' w' (fun x hx => hh x (List.mem_cons_of_mem _ (List.mem_append_right _ hx))) H') (fun i p x m g1 g2 g3 => List.mem_cons_of_mem _ (dbs_mem g1 g2 g3)) ta1 tb1 i p b s2 hpi
      have A2 := fun ys => mostS_H (W := W) (l := OwnT 88 2 (.slice (some ⟨sg, 0, none⟩) tn tn) tn ys :: (dbs ps F N ++ l)) p x m b hfi hni (List.mem_cons_of_mem _ (dbs_mem hpi hfi hni))
      obtain ⟨kk, hkk⟩ : ∃ kk, (k + 1) % tn = kk := ⟨_, rfl⟩
      have hmod : ((k : Int) + 1) % (tn : Int) = (kk : Int) := by rw [← hkk, Int.natCast_emod]; rfl
      rw [hkk] at c2 hk1
      clear hkk
      have HPI := Lib.hid (And.intro hpi s1)
      clear hfi hni hpi s2 s1 Rw hta htb
      go_wp2_with (first
        | go_skip
        | ((with_reducible refine AnsH.call (A1 _) H ?_); clear H; intro _ H) | ((with_reducible refine AnsH.call (A2 _) H ?_); clear H; intro _ H)
        | ((with_reducible show wpList _ _ _ (_ :: _) _ _); (with_reducible apply wpl_storeOwnR row_stp); (· rfl); (· rfl); (· rfl); (· exact stp_cells2 ..); (· exact H); (· exact List.mem_cons_self); (· exact (Nat.zero_add _).symm); (· exact hle); (· exact (rfl : _ = putS xs k p b)); (· exact Repl.here); (clear H; intro _ H); (simp only [Act.put, List.setIfInBounds_toArray, List.set_cons_zero, List.set_cons_succ]))
        | ((with_reducible show wpList _ _ _ (_ :: _) _ _); (with_reducible apply wpl_loadRdR row_stp); (· rfl); (· rfl); (· exact H.ownRd List.mem_cons_self); (· exact (Nat.zero_add _).symm); (· exact hle2); (· decide); (· exact putS_at hle); (simp only [Act.put, List.setIfInBounds_toArray, List.set_cons_zero, List.set_cons_succ])))
      refine ⟨⟨k + 1, _, by omega, by go_num, ?_, ?_, HIN.out.put hle HPI.out.2 HPI.out.1, H⟩, ?measure1⟩
      case measure1 => simp [intOf]; omega
      · rw [List.take_add_one, HPI.out.2, Option.toList_some, minS_snoc]
      · rw [putS_len hle, hxl]
    · obtain rfl : k = tn := by omega
      rw [List.take_of_length_le (by rw [hSL.out]; exact Nat.le_refl _)]
      have HXL := Lib.hid hxl
      clear hxl
      go_wp2_with (go_skip)
      have H0 := H
      clear H
      go_loopw [44] (fun i wr => RnB W l F N ps S (minS F N 1099511627776 S) sg k xs i wr) (fun i _ => k - (intOf i).toNat)
      case atStart => exact ⟨0, Nat.zero_le _, rfl, H0⟩
      case round =>
        obtain ⟨j, hj, rfl, H⟩ := hrel.out
        clear H0 hrel
        by_cases hlt2 : j < k
        · obtain ⟨i, b, s1, s2⟩ := HS.out.2 j (by rw [HTL.out]; exact hlt2)
          clear s2
          have hmem := List.mem_of_getElem? s1
          have hi := (H2.out _ hmem).1
          simp only at hi
          rw [HP.out.2.1] at hi
          have hpi : ps[i]? = some (ps[i]'(by rw [HP.out.1]; exact hi)) := List.getElem?_eq_getElem _
          have hfi : F[i]? = some (F[i]'(by rw [HP.out.2.1]; exact hi)) := List.getElem?_eq_getElem _
          have hni : N[i]? = some (N[i]'(by rw [HP.out.2.2]; exact hi)) := List.getElem?_eq_getElem _
          generalize ps[i]'(by rw [HP.out.1]; exact hi) = p at *
          generalize F[i]'(by rw [HP.out.2.1]; exact hi) = x at *
          generalize N[i]'(by rw [HP.out.2.2]; exact hi) = m at *
          have hb := HI.out.bnd i x m hfi hni
          have hx := (HM.out.okX hfi).2.2.2.2.2.2
          have hgo : (goS (minS F N 1099511627776 S) (S.take j) N)[i]? = some m := by
            rw [goS_other _ _ _ _ (nodup_before H3.out s1)]; exact hni
          have hsn : goS (minS F N 1099511627776 S) (S.take (j + 1)) N = (goS (minS F N 1099511627776 S) (S.take j) N).set i (m + if b then minS F N 1099511627776 S else -minS F N 1099511627776 S) := by
            rw [List.take_add_one, s1, Option.toList_some, goS_snoc, List.getD_eq_getElem?_getD, hgo]; rfl
          have HSN := Lib.hid hsn
          have HV1 := HV.out.1
          have HV2 := HV.out.2
          generalize minS F N 1099511627776 S = v at *
          obtain ⟨r, g1, g2⟩ := dbs_pull (l := l) hpi hfi hgo
          have hst := HIN.out j i b p (by omega) s1 hpi
          have hle : j * 2 + 2 ≤ xs.length := by rw [HXL.out]; omega
          have HX := Lib.hid hx
          clear hsn hfi hni hmem hpi s1 hx
          have C := fun q w' (H' : Heap W (DbC p x.f x.t m (x.n - m) :: Cel q (stp p b) 88 :: OwnT 88 2 (.slice (some ⟨sg, 0, none⟩) k k) k xs :: r) w') => goes8_H p x.f x.t m (x.n - m) v b (by have := HX.out; omega) (by have := HX.out; omega) (by omega) H'
          go_wp2_with (first
            | go_skip
            | ((with_reducible show wpList _ _ _ (_ :: _) _ _); (with_reducible apply wpl_allocRH row_stp); (· rfl); (· exact H); (clear H; intro q _ H); (simp only [Act.put, List.setIfInBounds_toArray, List.set_cons_zero, List.set_cons_succ]))
            | ((with_reducible show wpList _ _ _ (_ :: _) _ _); (with_reducible apply wpl_loadRdR row_stp); (· rfl); (· rfl); (· exact H.ownRd List.mem_cons_self); (· exact (Nat.zero_add _).symm); (· exact hle); (· decide); (· exact hst); (simp only [Act.put, List.setIfInBounds_toArray, List.set_cons_zero, List.set_cons_succ]))
            | ((with_reducible show wpList _ _ _ (_ :: _) _ _); (with_reducible apply wpl_storeRH row_stp); (· rfl); (· rfl); (· rfl); (· with_reducible exact stp_cells2 ..); (· exact H); (· (repeat (first | (with_reducible exact List.mem_cons_self) | with_reducible apply List.mem_cons_of_mem))); (· (simp only [stp0_sz, Nat.reduceAdd, Nat.reduceLeDiff, Nat.le_refl]; done)); (· with_reducible exact splice_all rfl); (· (repeat (first | (with_reducible exact Repl.here) | with_reducible apply Repl.there))); (clear H; intro _ H); (simp only [Act.put, List.setIfInBounds_toArray, List.set_cons_zero, List.set_cons_succ]))
            | ((with_reducible show wpList _ _ _ (_ :: _) _ _); (with_reducible apply wpl_loadRH row_stp); (· rfl); (· rfl); (· exact H); (· (repeat (first | (with_reducible exact List.mem_cons_self) | with_reducible apply List.mem_cons_of_mem))); (· (simp only [stp_size, Nat.reduceAdd, Nat.reduceLeDiff, Nat.le_refl]; done)); (· with_reducible exact stp_all ..); (simp only [Act.put, List.setIfInBounds_toArray, List.set_cons_zero, List.set_cons_succ]))
            | (refine (C _ _ (H.pull (.there (.there g1)))).mono ?_; clear C H; rintro _ _ ⟨rfl, H⟩))
          refine ⟨⟨j + 1, by omega, by go_num, ?_⟩, ?measure2⟩
          case measure2 => simp [intOf]; omega
          rw [HSN.out]
          replace H := H.drop (.there .here)
          refine H.perm ?_
          refine (List.Perm.swap _ _ _).trans (.cons _ ?_)
          have := (g2 (m + if b = true then v else -v)).perm.symm
          unfold debtT at this
          rw [show x.n - (m + if b = true then v else -v) = x.n - m - if b = true then v else -v by omega] at this
          exact this
        · obtain rfl : j = k := by omega
          rw [List.take_of_length_le (by rw [hSL.out]; exact Nat.le_refl _)] at H
          go_wp2_with (go_skip)
          go_end0
          exact ⟨rfl, H.tail⟩
end
end Go.Proofs.Ytbmmdfjabkpoeaa

/- slices.Clip of flows. -/
namespace Go.Proofs.Ytbmmdfjabkpoeaa
open Go.RowKit
set_option linter.unusedSimpArgs false
set_option linter.unusedVariables false
set_option maxRecDepth 100000
theorem clipF_nil : Ans 23 #[.slice none 0 0] (.slice none 0 0) := by
  intro w
  go_enter Try.func23, Try.ntmps23
  go_wp2
  go_ret
  exact ⟨rfl, (by repeat (first | exact Ext.refl _ | refine Ext.alloc ?_ _ | refine Ext.ext ?_ _ | refine Ext.drew ?_))⟩
theorem clipF (a : Addr) (n c : Nat) (hn : n ≤ c) (hc : c ≤ maxLen) : Ans 23 #[.slice (some a) n c] (.slice (some a) n n) := by
  intro w
  unfold maxLen at hc
  have ha : a.add 0 = a := by simp [Addr.add]
  go_enter Try.func23, Try.ntmps23
  go_wp2
  go_ret
  exact ⟨rfl, (by repeat (first | exact Ext.refl _ | refine Ext.alloc ?_ _ | refine Ext.ext ?_ _ | refine Ext.drew ?_))⟩
theorem RowT.nil7 {w : World} {e size n : Nat} {v : Value} {xs : List Value} (h : (RowT e size v n xs).ok w) : ∀ n' c', v = .slice none n' c' → n' = 0 ∧ c' = 0 := by
  intro n' c' e
  rcases h.2 with ⟨h1, _⟩ | ⟨g, cap, cur, h1, _⟩
  · rw [h1] at e; cases e; exact ⟨rfl, rfl⟩
  · rw [h1] at e; cases e
theorem clipFA (a : Option Addr) (n c : Nat) (hn : n ≤ c) (hm : c ≤ maxLen) (h0 : a = none → n = 0 ∧ c = 0) : Ans 23 #[.slice a n c] (.slice a n n) := by
  cases a with
  | none => obtain ⟨rfl, rfl⟩ := h0 rfl; exact clipF_nil
  | some a => exact clipF a n c hn hm
theorem flwL_app (F G : List Flw) : flwL (F ++ G) = flwL F ++ flwL G := by simp [flwL]
theorem flowC_one (f t n : Int) : OneCells (flow f t n).toList := by
  intro u hu
  simp [flow] at hu
  rcases hu with rfl | rfl | rfl <;> rfl
end Go.Proofs.Ytbmmdfjabkpoeaa
