/- How an argument's reading gives what a walk asks of it. -/
import Derived.Test.YtacglcpjbepfnaaBase
import Derived.ProofKit
import Derived.OpenShut
import Derived.ChangeOld
namespace Go.Proofs.Ytacglcpjbepfnaa
open Go.ChangeShapes Go.WideShapes Go.ChangeAt Go.RowKit

theorem ints_bytes : ∀ (zs : List Int), (∀ n ∈ zs, (Lit.int .u8 n).wf = true) → ∃ bs : List (BitVec 8), zs = bs.map I8
  | [], _ => ⟨[], rfl⟩
  | z :: zs, h => by
    obtain ⟨bs, rfl⟩ := ints_bytes zs (fun n hn => h n (List.mem_cons_of_mem _ hn))
    have hz := h z (List.mem_cons_self ..)
    have hb := bounds_u8 hz
    obtain ⟨b, rfl⟩ := exists_I8 z (by omega) (by omega)
    exact ⟨b :: bs, rfl⟩

theorem Rd.ofCells {w : World} {x : Addr} {xs : List Value} (h : ∀ i, (hi : i < xs.length) → w.cell? (x.add i) = some xs[i]) : Rd w (some x) xs := by
  obtain ⟨b, o, sp⟩ := x
  intro i hi
  have h0 := h 0 (by omega)
  have hsp : sp = none := by
    rcases sp with _ | s
    · rfl
    · simp only [Addr.add, if_true, World.cell?] at h0
      split at h0 <;> simp at h0
  subst hsp
  exact ⟨b, o, rfl, by rw [← addr_add]; exact h i hi⟩

/-- A slice of bytes that came in. -/
structure IsBytes (w : World) (a : Option Addr) (n c : Nat) (zs : List (BitVec 8)) : Prop where
  len : n = zs.length
  cap : n ≤ c
  max : c ≤ maxLen
  rd : Rd w a (zs.map B8)

theorem open_bytes {H : Type} {enc : TypeId × Value → H} {P : Program} {W : World} {held : Bool} {t e : TypeId} {v : Value} {d : DataW H} {p : List MemPlace} {r : Reach} {base : Nat}
    (ht : P.underlying t = some (.slice e)) (he : P.underlying e = some (.int .u8)) (hc : P.cellsOf e = 1) (hv : Value.okWide P W r base t v)
    (h : DataW.Trod enc P W 0 (fun _ => true) held t v d p) : ∃ a n c zs, v = .slice a n c ∧ IsBytes W a n c zs := by
  obtain ⟨a, n, c, rfl⟩ := okWide_slice ht hv
  obtain ⟨fuel, hf⟩ := h
  rcases open_ints ht he hc hf with ⟨hcs, _⟩ | ⟨x, l, c', zs, hcs, _, hl, hm, hz, _, hcell, hwz⟩
  · simp [Value.cells] at hcs
    obtain ⟨rfl, rfl, rfl⟩ := hcs
    exact ⟨none, 0, 0, [], rfl, rfl, Nat.le_refl _, by unfold maxLen; omega, Rd.nil _ _⟩
  · simp [Value.cells] at hcs
    obtain ⟨rfl, rfl, rfl⟩ := hcs
    obtain ⟨bs, rfl⟩ := ints_bytes zs hwz
    rw [if_pos rfl] at hz
    refine ⟨_, n, c, bs.take n, rfl, ?_, hl, hm, Rd.ofCells fun i hi => ?_⟩
    · simp at hz ⊢; omega
    · simp at hi hz
      rw [hcell i (by simp; omega)]
      simp [List.getD_eq_getElem?_getD, B8, show i < bs.length by omega]
end Go.Proofs.Ytacglcpjbepfnaa
