/- The walk of BooksOnce. -/
import Derived.Test.YtacglcpjbepfnaaMade4
namespace Go.Proofs.Ytacglcpjbepfnaa
open Go.RowKit
set_option linter.unusedSimpArgs false
set_option linter.unusedVariables false
set_option maxRecDepth 100000
theorem actB_nx (B : Bok) (x : OAct) : (actB B x).nx ≤ B.nx + 1 := by
  unfold actB
  split
  · unfold placeS; split <;> first | omega | (simp only; omega)
  · split
    · unfold cancelS; split <;> first | omega | (simp only; omega)
    · split
      · unfold takeS; split
        · omega
        · split <;> first | omega | (simp only; omega)
      · omega
theorem foldlB_nx : ∀ (F : List OAct) (B : Bok), (F.foldl actB B).nx ≤ B.nx + F.length
  | [], B => by simp
  | x :: F, B => by
    have h1 := foldlB_nx F (actB B x)
    have h2 := actB_nx B x
    rw [List.foldl_cons, List.length_cons]
    omega
theorem madeB_nx (F : List OAct) : (madeB F).nx ≤ 1 + F.length := foldlB_nx F Bok.new
theorem mayO_sq (a b : Int) (ow se bu le nu de : Int) : mayO ⟨a, ow, se, bu, le, nu, de⟩ = mayO ⟨b, ow, se, bu, le, nu, de⟩ := rfl
/-- A book, and an offer more. -/
structure OnceB (B : Bok) (ow se bu le nu de : Int) : Prop where
  may : mayO ⟨B.nx, ow, se, bu, le, nu, de⟩ = true
  len : B.L.length < 32
  good : B.Good
  nx : B.nx ≤ 1000
section
variable {B : Bok} {ow se bu le nu de : Int}
abbrev once1 (B : Bok) (ow se bu le nu de : Int) : Bok := ⟨B.L ++ [⟨B.nx, ow, se, bu, le, nu, de⟩], B.nx + 1⟩
abbrev once2 (B : Bok) : Bok := ⟨B.L, B.nx + 1⟩
theorem OnceB.good1 (h : OnceB B ow se bu le nu de) : (once1 B ow se bu le nu de).Good := by
  have := h.good.place ow se bu le nu de
  rwa [placeS_yes (place_fine h.may (by have := h.len; have := h.nx; omega))] at this
theorem OnceB.good2 (h : OnceB B ow se bu le nu de) : (once2 B).Good :=
  ⟨h.good.ord, fun o ho => by have := h.good.ok o ho; exact ⟨this.1, this.2.1, by show o.sq < B.nx + 1; omega⟩, h.good.few, by have := h.good.nx; have := h.nx; show 1 ≤ B.nx + 1 ∧ B.nx + 1 ≤ _; omega⟩
theorem OnceB.pos (h : OnceB B ow se bu le nu de) : 1 ≤ le ∧ le ≤ 1099511627776 := (mayO_iff.1 h.may).2.2.2.2.1
theorem OnceB.own (h : OnceB B ow se bu le nu de) : 1 ≤ ow ∧ ow ≤ 16 := (mayO_iff.1 h.may).1
theorem OnceB.find1 (h : OnceB B ow se bu le nu de) : findO (once1 B ow se bu le nu de).L B.nx = some ⟨B.nx, ow, se, bu, le, nu, de⟩ := h.good1.find_iff.2 ⟨by simp, rfl⟩
theorem OnceB.find2 (h : OnceB B ow se bu le nu de) : findO (once2 B).L B.nx = none := by
  unfold findO
  rw [List.find?_eq_none]
  intro o ho
  have := (h.good.ok o ho).2.2
  simp; omega
theorem OnceB.cancelE1 (h : OnceB B ow se bu le nu de) : cancelE (once1 B ow se bu le nu de) (ow + 1) B.nx = 15 := by
  unfold cancelE; rw [h.find1]; simp only; rw [if_pos (by omega)]
theorem OnceB.cancelN1 (h : OnceB B ow se bu le nu de) : cancelN (once1 B ow se bu le nu de) (ow + 1) B.nx = 0 := by
  unfold cancelN; rw [h.find1]; simp only; rw [if_pos (by omega)]
theorem OnceB.cancelS1 (h : OnceB B ow se bu le nu de) : cancelS (once1 B ow se bu le nu de) (ow + 1) B.nx = once1 B ow se bu le nu de := by
  unfold cancelS; rw [h.cancelE1, if_neg (by decide)]
theorem OnceB.takeE1 (h : OnceB B ow se bu le nu de) : takeE (once1 B ow se bu le nu de) B.nx (le + 1) = 1 := by
  unfold takeE; rw [h.find1]; simp only; rw [if_pos (by omega)]
theorem OnceB.takeS1 (h : OnceB B ow se bu le nu de) : takeS (once1 B ow se bu le nu de) B.nx (le + 1) = once1 B ow se bu le nu de := by
  unfold takeS; rw [h.find1]; simp only; rw [if_pos (by omega)]
theorem OnceB.takeE2 (h : OnceB B ow se bu le nu de) : takeE (once1 B ow se bu le nu de) B.nx 0 = 1 := by
  unfold takeE; rw [h.find1]; simp only; rw [if_pos (by omega)]
theorem OnceB.takeS2 (h : OnceB B ow se bu le nu de) : takeS (once1 B ow se bu le nu de) B.nx 0 = once1 B ow se bu le nu de := by
  unfold takeS; rw [h.find1]; simp only; rw [if_pos (by omega)]
theorem OnceB.takeE3 (h : OnceB B ow se bu le nu de) : takeE (once1 B ow se bu le nu de) B.nx le = 0 := by
  have := h.pos
  unfold takeE; rw [h.find1]; simp only; rw [if_neg (by omega)]
theorem OnceB.takeS3 (h : OnceB B ow se bu le nu de) : takeS (once1 B ow se bu le nu de) B.nx le = once2 B := by
  have hp := h.pos
  unfold takeS; rw [h.find1]; simp only; rw [if_neg (by omega)]
  have h2 := setO_none (L := B.L) (s := B.nx) (v := le - le) (fun o ho => by have := (h.good.ok o ho).2.2; omega) h.good.pos
  unfold setO at h2 ⊢
  rw [List.map_append, List.filter_append, h2]
  simp
theorem OnceB.again (h : OnceB B ow se bu le nu de) : OnceB (once2 B) ow se bu le nu de ∨ True := .inr trivial
theorem OnceB.place2 (h : OnceB B ow se bu le nu de) : placeE (once2 B) ow se bu le nu de = 0 :=
  place_fine (B := once2 B) (by have := h.may; rw [mayO_sq _ B.nx]; exact this) (by have h1 := h.len; have h2 := h.nx; simp only; omega)
theorem OnceB.find3 (h : OnceB B ow se bu le nu de) : findO (B.L ++ [(⟨B.nx + 1, ow, se, bu, le, nu, de⟩ : Ofr)]) (B.nx + 1) = some ⟨B.nx + 1, ow, se, bu, le, nu, de⟩ := by
  have g := h.good2.place ow se bu le nu de
  rw [placeS_yes h.place2] at g
  exact g.find_iff.2 ⟨by simp, rfl⟩
theorem OnceB.cancelE3 (h : OnceB B ow se bu le nu de) : cancelE ⟨B.L ++ [(⟨B.nx + 1, ow, se, bu, le, nu, de⟩ : Ofr)], B.nx + 1 + 1⟩ ow (B.nx + 1) = 0 := by
  unfold cancelE; rw [h.find3]; simp
theorem OnceB.cancelN3 (h : OnceB B ow se bu le nu de) : cancelN ⟨B.L ++ [(⟨B.nx + 1, ow, se, bu, le, nu, de⟩ : Ofr)], B.nx + 1 + 1⟩ ow (B.nx + 1) = le := by
  unfold cancelN; rw [h.find3]; simp
end
end Go.Proofs.Ytacglcpjbepfnaa
