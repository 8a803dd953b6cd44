/- Parts of slices, read quietly; an append of a part, in a region that draws. -/
import Derived.Test.YtacglcpjbepfnaaHeapLoud
import Derived.Test.YtacglcpjbepfnaaHeapSlide
namespace Go.Proofs.Ytacglcpjbepfnaa
open Go.RowKit
set_option linter.unusedVariables false
set_option maxRecDepth 100000
set_option maxHeartbeats 1000000
section
variable {ops : Array Oper} {rest : List Oper} {a : Act} {w W : World} {l : List Thing}
theorem wpQ_cutTo {t e size bytes : Nat} {z : Value} (T : SlTy Try.prog t e size bytes z) {dst : Option Tmp} {ty : TypeId} {pos : String} {after : Array Edge} {guard : Option (Nat × Bool)} {x y : Operand} {K : Act → Prop} {H : Heap W l w} (hw : Region.wanted ⟨dst, .slice t x none (some y) none, ty, pos, after, guard⟩ (yielded ops a.tmps) = true)
    {ao : Option Addr} {n c hi : Nat} {v : Int} {k : IntKind} (hx : a.eval x = .slice ao n c) (hy : a.eval y = .int k v) (hv : v = (hi : Int)) (hh : hi ≤ c)
    (h : wpQuiet Try.prog ops (fun w' => ∃ d, w' = H.any d) K rest (a.put dst (.slice ao hi c))) : wpQuiet Try.prog ops (fun w' => ∃ d, w' = H.any d) K (⟨dst, .slice t x none (some y) none, ty, pos, after, guard⟩ :: rest) a := by
  subst hv
  refine BigFrame.wpQuiet_want hw fun K hK => ⟨_, ?_, hK _ h⟩
  rintro _ ⟨d, rfl⟩
  have hr := run_cutTo (P := Try.prog) T ao n c hi k hh (H.any d)
  have hs : (Instr.sliceAt t (.slice ao n c) none (some (.int k (hi : Int))) none).run Try.prog (H.any d) = .ok (.slice ao hi c) (H.any d) := by
    unfold Instr.sliceAt
    rw [Sem.run_bind, run_underlying T.und]
    simp only [Result.andThen_ok]
    exact hr
  unfold Oper.quietAt execOp
  simp only [hx, Option.map_some, hy, Option.map_none, Sem.run_bind, hs]
  exact ⟨rfl, rfl⟩
theorem wpQ_cutFrom {t e size bytes : Nat} {z : Value} (T : SlTy Try.prog t e size bytes z) {dst : Option Tmp} {ty : TypeId} {pos : String} {after : Array Edge} {guard : Option (Nat × Bool)} {x y : Operand} {K : Act → Prop} {H : Heap W l w} (hw : Region.wanted ⟨dst, .slice t x (some y) none none, ty, pos, after, guard⟩ (yielded ops a.tmps) = true)
    {g n c lo : Nat} {v : Int} {k : IntKind} (hx : a.eval x = .slice (some ⟨g, 0, none⟩) n c) (hy : a.eval y = .int k v) (hv : v = (lo : Int)) (hh : lo < n) (hc : n ≤ c)
    (h : wpQuiet Try.prog ops (fun w' => ∃ d, w' = H.any d) K rest (a.put dst (.slice (some ⟨g, lo * size, none⟩) (n - lo) (c - lo)))) : wpQuiet Try.prog ops (fun w' => ∃ d, w' = H.any d) K (⟨dst, .slice t x (some y) none none, ty, pos, after, guard⟩ :: rest) a := by
  subst hv
  refine BigFrame.wpQuiet_want hw fun K hK => ⟨_, ?_, hK _ h⟩
  rintro _ ⟨d, rfl⟩
  have hr := run_cutFrom (P := Try.prog) T (some ⟨g, 0, none⟩) n c lo k (by omega) (H.any d)
  have hcut : cutA (some ⟨g, 0, none⟩) c lo size = some ⟨g, lo * size, none⟩ := by
    unfold Proofs.Ytacglcpjbepfnaa.cutA
    rw [if_neg (by omega)]
    simp [Addr.add]
    exact fun h => h.symm
  rw [hcut] at hr
  have hs : (Instr.sliceAt t (.slice (some ⟨g, 0, none⟩) n c) (some (.int k (lo : Int))) none none).run Try.prog (H.any d) = .ok (.slice (some ⟨g, lo * size, none⟩) (n - lo) (c - lo)) (H.any d) := by
    unfold Instr.sliceAt
    rw [Sem.run_bind, run_underlying T.und]
    simp only [Result.andThen_ok]
    exact hr
  unfold Oper.quietAt execOp
  simp only [hx, Option.map_some, hy, Option.map_none, Sem.run_bind, hs]
  exact ⟨rfl, rfl⟩
end
section
variable {W : World} {G : List Thing → Prop} {loud : List Nat} {K : List Thing → Act → Prop} {l r : List Thing} {a : Act} {lo : List Oper} {ks : List Nat} {k : Nat} {dst : Option Tmp} {ty : TypeId} {pos : String} {after : Array Edge}
theorem wpO_appendR {t e size bytes : Nat} {z : Value} (T : SlTy Try.prog t e size bytes z) {s x : Operand} (ho : lo[k]? = some ⟨dst, .call { callee := .builtin .append, args := #[s, x], argTypes := #[t, t] }, ty, pos, after, none⟩) (hk : loud.contains k = true)
    {v : Value} {b o m c n : Nat} {xs news : List Value} (hs : a.eval s = v) (hx : a.eval x = .slice (some ⟨b, o, none⟩) m c) (R : ∀ w', Heap W (RowT e size v n xs :: l) w' → Rd w' (some ⟨b, o, none⟩) news)
    (hl : news.length = m * size) (h1 : OneCells news) (h63 : n + m ≤ maxLen) (hbytes : (n + m) * bytes ≤ 140737488355328)
    (hG : ∀ v', G (RowT e size v' (n + m) (xs ++ news) :: l)) (h : ∀ v', wpO Try.prog lo.toArray W G loud K ks (RowT e size v' (n + m) (xs ++ news) :: l) (a.put dst v')) : wpO Try.prog lo.toArray W G loud K (k :: ks) (RowT e size v n xs :: l) a := by
  refine wpO_loud ho hk ⟨rfl, fun w H => ?_⟩
  have hown : w.ownsRow 0 e size v n xs := H.ok _ List.mem_cons_self
  have hrd := R w H
  obtain ⟨i, hi, hz, hsz, hb⟩ := T.inf
  have hnw := hrd.addr
  obtain ⟨v1, w1, hr1, hbl⟩ := run_append_block w T ty 0 v n xs hown ⟨b, o, none⟩ m c news hl hnw h1 h63 hbytes
  obtain ⟨v', w', hr, h2, h3, h4⟩ := run_append_own (P := Try.prog) w 0 t ty e i z size bytes T.und hi hz hsz hb T.zc T.pos v n xs hown ⟨b, o, none⟩ m c news hl hnw h1 h63 hbytes (Nat.zero_le _)
  rw [hr1] at hr
  simp only [Result.ok.injEq] at hr
  obtain ⟨rfl, rfl⟩ := hr
  refine ⟨_, v1, w1, .inl ?_, H.head h3 h2 ?_, hG _, h _⟩
  · unfold execOp
    simp only [resolve, invoke, builtin, Sem.run_bind, Sem.run_pure, Result.andThen_ok, List.map_toArray, List.map_cons, List.map_nil, hs, hx, hr1]
  · rcases hbl with hbl | hbl
    · exact .inl hbl
    · refine .inr fun j hj => ?_
      have h5 := ownsRow_fp h2 j hj
      have hj' : v1.ownBlock = some j := hj
      rw [hbl] at hj'
      cases hj'
      exact ⟨Nat.le_refl _, h5.2⟩
end
end Go.Proofs.Ytacglcpjbepfnaa
