/- A region that draws its order, rows loaded and stored in it: the loads first, under what holds throughout; then the stores. -/
import Derived.Test.YtfbipghjhngncaaRow
import Derived.OrdersHeld
namespace Go.Proofs.Ytfbipghjhngncaa
open Go.RowKit

section
variable {ops : Array Oper} {md : Region.Mode} {S : World → Prop} {a : Act} {w w' : World} {Q : Exit → Act → World → Prop} {T n : Nat} {z : Array Value} {fuel i : Nat} {listed : Array Bool}
  {dst : Option Tmp} {ty : TypeId} {pos : String} {after : Array Edge} {guard : Option (Nat × Bool)} {x y : Operand} {b off : Nat} {c c0 c1 : Array Value} {t : TypeId} {f : Nat × Nat}
theorem wpAnyH_takeR (RT : RowTy T n z) (hi : ops[i]? = some ⟨dst, .load T x, ty, pos, after, guard⟩) (hs : Region.noSelect ops = true) (hf : Region.free md ops listed i = true) (hr : (Region.ready md ops listed).contains i = true)
    (hQ : ∀ c a w, Q (.panic c) (a.put dst (.agg c1)) w → Q (.panic c) a w) (hw : Region.wanted ⟨dst, .load T x, ty, pos, after, guard⟩ (yielded ops a.tmps) = true) (hx : a.eval x = .pointer (some ⟨b, off, none⟩)) (hS : S w)
    (hb : ∀ w, S w → blk w b = some (.cells c t f)) (hn : off + n ≤ c.size) (he : c.extract off (off + n) = c1) (h : wpAnyH Try.prog md ops Q S fuel (listed.setIfInBounds i true) (a.put dst (.agg c1)) w) : wpAnyH Try.prog md ops Q S (fuel + 1) listed a w :=
  wpAnyH_take hi hs hf hr hQ (.inl ⟨hw, fun w hw' => by
    unfold execOp
    simp only [hx, Sem.run_bind, run_loadR RT (hb w hw') hn, he]
    rfl⟩) hS h
theorem wpAnyH_storeR (RT : RowTy T n z) (hr : Region.ready md ops listed = [i]) (hi : ops[i]? = some ⟨dst, .store T x y, ty, pos, after, guard⟩) (hw : Region.wanted ⟨dst, .store T x y, ty, pos, after, guard⟩ (yielded ops a.tmps) = true)
    (hx : a.eval x = .pointer (some ⟨b, off, none⟩)) (hy : a.eval y = .agg c) (hc : Cells n c) (hb : blk w b = some (.cells c0 t (0, 0))) (hn : off + n ≤ c0.size) (hs : splice c0 off c = c1) (hp : SetTo w b c1 w') (hS : S w')
    (h : wpAnyH Try.prog md ops Q S fuel (listed.setIfInBounds i true) (a.put dst undef) w') : wpAnyH Try.prog md ops Q S (fuel + 1) listed a w := by
  refine wpAnyH_all hr (by simp) fun j hj => ?_
  obtain rfl : j = i := by simpa using hj
  unfold wpOp
  simp only [hi, hw, if_true]
  obtain ⟨_, rfl⟩ := hp
  subst hs
  refine .inl (wp_store_mid T x y rfl b off c hx hy (fun j hj => ⟨?_, frozen_of_row w b (off + j) c0 t hb⟩) (by rw [RT.size, hc.1]) hc.2 ?_)
  · rw [cell_of_row w b (off + j) c0 t _ hb, Array.getElem?_eq_getElem (by have := hc.1; omega)]; rfl
  · rw [setCells_blk b c.toList off w c0 t _ hb (by have := hc.1; simp; omega)]
    unfold splice at h hS
    exact ⟨by simpa using hS, by simpa using h⟩
theorem ret_rowR2 (RT : RowTy T n z) {fn : Func} {p q : Tmp} (hf : fn.results = #[.cell p T, .cell q T]) {R : Ending → World → Prop} {b b2 : Nat} (hp : a.tmps.getD p undef = .pointer (some ⟨b, 0, none⟩)) (hq : a.tmps.getD q undef = .pointer (some ⟨b2, 0, none⟩)) (hd : a.defers = [])
    {c c2 : Array Value} {t t2 : TypeId} {f f2 : Nat × Nat} (hb : blk w b = some (.cells c t f)) (hb2 : blk w b2 = some (.cells c2 t2 f2)) (hn : c.size = n) (hn2 : c2.size = n) (h : R (.returned (.tuple #[.agg c, .agg c2])) w) : bodyPost Try.prog fn R .ret a w := by
  obtain ⟨d, hu, hr⟩ := RT.und
  have hp' : a.tmps[p]?.getD undef = .pointer (some ⟨b, 0, none⟩) := by simpa using hp
  have hq' : a.tmps[q]?.getD undef = .pointer (some ⟨b2, 0, none⟩) := by simpa using hq
  have hm : (match d with | .struct _ | .array _ _ => true | _ => false) = true := by cases d <;> first | rfl | (simp [TypeDesc.isRow] at hr)
  have h1 := run_loadVar_row (P := Try.prog) w b t T c f d hb hu (by cases d <;> first | rfl | (simp [TypeDesc.isRow] at hr)) (by rw [RT.size, hn])
  have h2 := run_loadVar_row (P := Try.prog) w b2 t2 T c2 f2 d hb2 hu (by cases d <;> first | rfl | (simp [TypeDesc.isRow] at hr)) (by rw [RT.size, hn2])
  exact bodyPost_ret (v := .tuple #[.agg c, .agg c2]) (by simp [results, hf, hp', hq', asAddr, h1, h2]) hd h
theorem ret_rowT (RT : RowTy T n z) {fn : Func} {p q : Tmp} (hf : fn.results = #[.cell p T, .tmp q]) {R : Ending → World → Prop} {b : Nat} {v : Value} (hp : a.tmps.getD p undef = .pointer (some ⟨b, 0, none⟩)) (hq : a.tmps.getD q undef = v) (hd : a.defers = [])
    {c : Array Value} {t : TypeId} {f : Nat × Nat} (hb : blk w b = some (.cells c t f)) (hn : c.size = n) (h : R (.returned (.tuple #[.agg c, v])) w) : bodyPost Try.prog fn R .ret a w := by
  obtain ⟨d, hu, hr⟩ := RT.und
  have hp' : a.tmps[p]?.getD undef = .pointer (some ⟨b, 0, none⟩) := by simpa using hp
  have hq' : a.tmps[q]?.getD undef = v := by simpa using hq
  have h1 := run_loadVar_row (P := Try.prog) w b t T c f d hb hu (by cases d <;> first | rfl | (simp [TypeDesc.isRow] at hr)) (by rw [RT.size, hn])
  exact bodyPost_ret (v := .tuple #[.agg c, v]) (by simp [results, hf, hp', hq', asAddr, h1]) hd h
end
end Go.Proofs.Ytfbipghjhngncaa
