/- ledgers.Ledger: Lines. -/
import Derived.Test.YtacglcpjbepfnaaLedOrd
import Derived.Test.YtacglcpjbepfnaaSortH
import Derived.Test.YtacglcpjbepfnaaAppend
import Derived.Test.YtacglcpjbepfnaaShelfL
namespace Go.Proofs.Ytacglcpjbepfnaa
open Go.RowKit Go.Sort
set_option linter.unusedSimpArgs false
set_option linter.unusedVariables false
theorem slLin : SlTy Try.prog 35 39 5 24 (.agg (line 0 0 0 0 0)) := slTy_mk Try.underlying35 (by kernel_rfl) rfl (by decide)
theorem bs_line : Try.prog.underlying 35 = some (.slice 39) ∧ (Try.prog.info? 39).map (fun i => (i.size, i.zero.map Value.cells)) = some ((line 0 0 0 0 0).size, some (line 0 0 0 0 0)) ∧ 0 < (line 0 0 0 0 0).size ∧ (line 0 0 0 0 0).size ≤ 65536 := ⟨Try.underlying35, by kernel_rfl, by decide, by decide⟩
theorem line_one (a b c d e : Int) : OneCells (line a b c d e).toList := by
  intro u hu
  simp at hu
  rcases hu with rfl | rfl | rfl | rfl | rfl <;> rfl
section
variable {W w : World} {l : List Thing} {p q g n c : Nat} {L : List Lin} {S : Lgr}
theorem cmpLays_order (blk off size : Nat) (w : World) : CmpLays Try.prog 82 #[] linV 5 cfL blk off size w := fun m os dk hs x y => order_ans x y _
theorem lsort_H (H : Heap W (Sl g 39 5 n c (linL L) :: l) w) (hn : L.length = n) (hb : n ≤ 1000000) (hp : L.Perm S.L) (G : S.Good) :
    Calls Try.prog 81 #[.slice (some ⟨g, 0, none⟩) n c, .func (.func 82) #[] #[]] w fun e w' => e = .returned (.tuple #[]) ∧ Heap W (Sl g 39 5 n c (linL S.L) :: l) w' := by
  have hsz : L.toArray.size = n := by simpa using hn
  have eg : ∀ args w, (callFunc 82 args).run Try.prog w = .ok (.enter 82 args) w := enters_of Try.func82 (by kernel_rfl) rfl
  have hcon := AnyQ.slices_SortFunc Try.sortLine 5 Try.isAgg39 Try.sizeOf39 linV (fun _ => rfl) (fun x v hv => by simp [linV] at hv; rcases hv with rfl | rfl | rfl | rfl | rfl <;> rfl) cfL swoL 82 #[] g 0 c L.toArray w eg (cmpLays_order g 0 _ w) (sort_holds (H.ok _ List.mem_cons_self) hn) (sl_lt H) (by omega)
  change Calls Try.prog 81 _ _ _ at hcon
  rw [hsz] at hcon
  refine hcon.mono fun e w' ⟨he, d', k, os, h1, h2, hw⟩ => ⟨he, ?_⟩
  subst hw
  exact sort_heap H hn hp G (by rw [hsz]; exact h1) (by rw [hsz]; exact h2)
end
end Go.Proofs.Ytacglcpjbepfnaa
