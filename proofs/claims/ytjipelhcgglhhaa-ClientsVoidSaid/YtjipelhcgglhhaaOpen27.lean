/- The arguments of the clients' laws. -/
import Derived.Test.YtjipelhcgglhhaaShape
namespace Go.Proofs.Ytjipelhcgglhhaa
open Go.ChangeShapes Go.WideShapes Go.ChangeAt Go.RowKit
theorem leaf_u8 {w : World} {v : Value} (h : LeafOk Try.prog w 1 5 v) : ∃ n, v = .int .u8 n ∧ 0 ≤ n ∧ n ≤ 255 := by
  unfold LeafOk at h
  rw [Try.underlying5] at h
  obtain ⟨n, rfl, hw⟩ := h
  exact ⟨n, rfl, (bounds_u8 hw).1, (bounds_u8 hw).2⟩
theorem arr_two {cs : Array Value} (h : cs.size = 2) {x y : Value} (hx : cs[0]? = some x) (hy : cs[1]? = some y) : cs = #[x, y] := by
  obtain ⟨l⟩ := cs
  match l, h with
  | [c0, c1], _ => simp at hx hy; rw [hx, hy]
theorem open_arr2u8 {H : Type} {enc : TypeId × Value → H} {W : World} {held : Bool} {v : Value} {d : DataW H} {p : List MemPlace} {r : Reach} {b0 : Nat}
    (hval : Value.okWide Try.prog W r b0 56 v) (h : DataW.Trod enc Try.prog W 0 (fun _ => true) held 56 v d p) : ∃ x y, v = .agg #[.int .u8 x, .int .u8 y] ∧ 0 ≤ x ∧ x ≤ 255 ∧ 0 ≤ y ∧ y ≤ 255 := by
  obtain ⟨cs, rfl, hn, hp⟩ := open_flat (.inr ⟨_, _, Try.underlying56⟩) (show flat Try.prog 9 56 = some [5, 5] by kernel_rfl) hval h
  obtain ⟨x, hx, kx⟩ := hp 0 _ rfl
  obtain ⟨y, hy, ky⟩ := hp 1 _ rfl
  obtain ⟨a, rfl, a0, a1⟩ := leaf_u8 (kx 1)
  obtain ⟨b, rfl, b0, b1⟩ := leaf_u8 (ky 1)
  exact ⟨a, b, by rw [arr_two hn hx hy], a0, a1, b0, b1⟩
end Go.Proofs.Ytjipelhcgglhhaa
