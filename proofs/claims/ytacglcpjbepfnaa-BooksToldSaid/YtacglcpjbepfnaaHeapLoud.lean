/- Loud operations in a region that draws: a slice literal of one row, an append. -/
import Derived.Test.YtacglcpjbepfnaaHeapRegion
import Derived.Test.YtacglcpjbepfnaaHeapOwn
namespace Go.Proofs.Ytacglcpjbepfnaa
open Go.RowKit
set_option linter.unusedVariables false
section
variable {W : World} {G : List Thing → Prop} {loud : List Nat} {K : List Thing → Act → Prop} {l r : List Thing} {a : Act} {lo : List Oper} {ks : List Nat} {k : Nat} {dst : Option Tmp} {ty : TypeId} {pos : String} {after : Array Edge}
theorem wpO_bsR {x : Operand} {t e : TypeId} {c zs : Array Value} (ho : lo[k]? = some ⟨dst, .buildSlice t 1 #[(0, x)], ty, pos, after, none⟩) (hk : loud.contains k = true) (hx : a.eval x = .agg c)
    (hT : Try.prog.underlying t = some (.slice e) ∧ (Try.prog.info? e).map (fun i => (i.size, i.zero.map Value.cells)) = some (zs.size, some zs) ∧ 0 < zs.size ∧ zs.size ≤ 65536) (hv : c.size = zs.size)
    (hG : ∀ p, G (Cel p c e :: l)) (h : ∀ p, wpO Try.prog lo.toArray W G loud K ks (Cel p c e :: l) (a.put dst (.slice (some ⟨p, 0, none⟩) 1 1))) : wpO Try.prog lo.toArray W G loud K (k :: ks) l a := by
  refine wpO_loud ho hk ⟨rfl, fun w H => ⟨_, _, _, .inl ?_, H.alloc c e, hG _, h _⟩⟩
  unfold execOp
  simp only [List.map_toArray, List.map_cons, List.map_nil, hx, Sem.run_bind, run_buildSlice1 hT.1 hT.2.1 hT.2.2.1 hT.2.2.2 (.agg c) hv, Result.andThen_ok, Sem.run_pure]
  rfl
theorem wpO_append {t e size bytes : Nat} {z : Value} (T : SlTy Try.prog t e size bytes z) {s x : Operand} (ho : lo[k]? = some ⟨dst, .call { callee := .builtin .append, args := #[s, x], argTypes := #[t, t] }, ty, pos, after, none⟩) (hk : loud.contains k = true)
    {v : Value} {b m c n : Nat} {xs news : List Value} {cc : Array Value} {te : TypeId} (hs : a.eval s = v) (hx : a.eval x = .slice (some ⟨b, 0, none⟩) m c) (pl : Pull l (RowT e size v n xs) r) (mb : Cel b cc te ∈ l) (hnews : cc.toList = news)
    (hl : news.length = m * size) (h1 : OneCells news) (h63 : n + m ≤ maxLen) (hbytes : (n + m) * bytes ≤ 140737488355328)
    (hG : ∀ v', G (RowT e size v' (n + m) (xs ++ news) :: r)) (h : ∀ v', wpO Try.prog lo.toArray W G loud K ks (RowT e size v' (n + m) (xs ++ news) :: r) (a.put dst v')) : wpO Try.prog lo.toArray W G loud K (k :: ks) l a := by
  refine wpO_loud ho hk ⟨rfl, fun w H => ?_⟩
  have H2 := H.pull pl
  have hown : w.ownsRow 0 e size v n xs := H2.ok _ List.mem_cons_self
  have hrd := H.celRd mb
  rw [hnews] at hrd
  obtain ⟨i, hi, hz, hsz, hb⟩ := T.inf
  have hnw := hrd.addr
  obtain ⟨v1, w1, hr1, hbl⟩ := run_append_block w T ty 0 v n xs hown ⟨b, 0, none⟩ m c news hl hnw h1 h63 hbytes
  obtain ⟨v', w', hr, h2, h3, h4⟩ := run_append_own (P := Try.prog) w 0 t ty e i z size bytes T.und hi hz hsz hb T.zc T.pos v n xs hown ⟨b, 0, none⟩ m c news hl hnw h1 h63 hbytes (Nat.zero_le _)
  rw [hr1] at hr
  simp only [Result.ok.injEq] at hr
  obtain ⟨rfl, rfl⟩ := hr
  refine ⟨_, v1, w1, .inl ?_, H2.head h3 h2 ?_, hG _, h _⟩
  · unfold execOp
    simp only [resolve, invoke, builtin, Sem.run_bind, Sem.run_pure, Result.andThen_ok, List.map_toArray, List.map_cons, List.map_nil, hs, hx, hr1]
  · rcases hbl with hbl | hbl
    · exact .inl hbl
    · refine .inr fun j hj => ?_
      have h5 := ownsRow_fp h2 j hj
      have hj' : v1.ownBlock = some j := hj
      rw [hbl] at hj'
      cases hj'
      exact ⟨Nat.le_refl _, h5.2⟩
end
end Go.Proofs.Ytacglcpjbepfnaa
