/- The marks of a book's pages of offers; rows of offers. -/
import Derived.Test.YtacglcpjbepfnaaBkRows
import Derived.Test.YtacglcpjbepfnaaRowO
namespace Go.Proofs.Ytacglcpjbepfnaa
open Go.RowKit
abbrev oN (n : Int) : Array Value := ofrA ⟨0, 0, 0, 0, n, 0, 0⟩
abbrev oM (n : Int) : Array Value := ofrA ⟨0, 0, 0, 0, -n, 0, 0⟩
theorem ofr_cells (o : Ofr) : Cells 7 (ofrA o) := ⟨rfl, by simp [ofrA, ofrV, Value.oneCell']⟩
theorem ofr_splice (o q : Ofr) : splice (ofrA o) 0 (ofrA q) = ofrA q := splice_all rfl
theorem slO : SlTy Try.prog 76 83 7 40 (.agg (ofrA ⟨0, 0, 0, 0, 0, 0, 0⟩)) := slTy_mk Try.underlying76 (by kernel_rfl) rfl (by decide)
theorem oN_good (n : Int) : GoodR 7 83 (oN n) := ⟨ofr_cells _, fun w => neqO_run _ w⟩
theorem oM_good (n : Int) : GoodR 7 83 (oM n) := oN_good (-n)
end Go.Proofs.Ytacglcpjbepfnaa
