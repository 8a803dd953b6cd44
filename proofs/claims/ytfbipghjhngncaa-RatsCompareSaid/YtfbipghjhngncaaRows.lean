/-
  No cell of these rows narrows 'for every input' (looked for: loops, veiled, ifaces, maps, wideKeys, modest, calm, conditions, laid).
  DERIVED. THE GIVEN ROWS OF THIS SEAT. 11 by the template 'for every input the law returns true; each argument reads behind the call as it read before'; 0 by the template 'total and deterministic' (their statements: YtfbipghjhngncaaTotals.lean).
  GIVEN WITH THE SEED: the statements are not yours to turn. If you find one false, say at which input.
  Laid BY PROGRAM, IN A SANDBOX (cutbox-rows.mjs): the forced cells as the released guide's own fill.sh prints them over the translation 606f7b059a992f1e… (all of the seat's roots in one cut). By AI agents, Wed Nov 11 2026. No macro, syntax, notation, axiom, sorry.
-/
import Derived.Test.YtfbipghjhngncaaChecked
import GoSem.Claim
import GoSem.ClaimJoined
import GoSem.ClaimMapViews
import Derived.JoinedTies
import Derived.KernelRfl
namespace Go.Proofs.Ytfbipghjhngncaa
/- THE CELL 'sum', in the pinned program and in every row, IS THE sha256 OF THE DUMP (.gsa) THAT YtfbipghjhngncaaProg.lean LOADS. Nothing in Lean hashes anything: it is a label: what it is worth is what the hold of that sum in a sandbox is worth. -/
noncomputable def Try.pinned : Pinned := { name := "ytfbipghjhngncaa", sum := "606f7b059a992f1e8826f99cddaa24b88cd2c93a7cb2de09c6aae91046af4561", checked := Try.checked }
namespace Rows
def none {H : Type} : Left H := { results := [], args := [] }

/-- 'countinghouselaw01.ExactsTwo': WHATEVER THE INPUT: true; the input reads as it did. -/
def exactsTwoSpec : ChangeSpec := { name := "exactsTwo", fn := fun _ => fun
  | [d1, d2] => { results := [.lit (.bool true)], args := [d1, d2] }
  | _ => none }
def exactsTwoRow : OpenClaim := { program := "ytfbipghjhngncaa", sum := "606f7b059a992f1e8826f99cddaa24b88cd2c93a7cb2de09c6aae91046af4561", func := "countinghouse/countinghouselaw01.ExactsTwo", spec := "exactsTwo", inPlace := ["math/bits.Add64"], named := ["math/bits.divideError", "math/bits.overflowError"], apart := false }
def ExactsTwoSaid : Prop := exactsTwoRow.holds Try.pinned (OpenSpec.ofChange exactsTwoSpec)

/-- ITS FALSE NEIGHBOUR: 'it returns false'. Refute it at one input. -/
def exactsTwoWrong : ChangeSpec := { name := "exactsTwo", fn := fun _ => fun
  | [d1, d2] => { results := [.lit (.bool false)], args := [d1, d2] }
  | _ => none }
def ExactsTwoWrongFalsely : Prop := exactsTwoRow.holds Try.pinned (OpenSpec.ofChange exactsTwoWrong)

/-- 'countinghouselaw01.ExactsSum': WHATEVER THE INPUT: true; the input reads as it did. -/
def exactsSumSpec : ChangeSpec := { name := "exactsSum", fn := fun _ => fun
  | [d] => { results := [.lit (.bool true)], args := [d] }
  | _ => none }
def exactsSumRow : OpenClaim := { program := "ytfbipghjhngncaa", sum := "606f7b059a992f1e8826f99cddaa24b88cd2c93a7cb2de09c6aae91046af4561", func := "countinghouse/countinghouselaw01.ExactsSum", spec := "exactsSum", inPlace := ["math/bits.Add64"], named := ["math/bits.divideError", "math/bits.overflowError"], apart := false }
def ExactsSumSaid : Prop := exactsSumRow.holds Try.pinned (OpenSpec.ofChange exactsSumSpec)

/-- ITS FALSE NEIGHBOUR: 'it returns false'. Refute it at one input. -/
def exactsSumWrong : ChangeSpec := { name := "exactsSum", fn := fun _ => fun
  | [d] => { results := [.lit (.bool false)], args := [d] }
  | _ => none }
def ExactsSumWrongFalsely : Prop := exactsSumRow.holds Try.pinned (OpenSpec.ofChange exactsSumWrong)

/-- 'countinghouselaw01.ExactsBy': WHATEVER THE INPUT: true; the input reads as it did. -/
def exactsBySpec : ChangeSpec := { name := "exactsBy", fn := fun _ => fun
  | [d1, d2, d3] => { results := [.lit (.bool true)], args := [d1, d2, d3] }
  | _ => none }
def exactsByRow : OpenClaim := { program := "ytfbipghjhngncaa", sum := "606f7b059a992f1e8826f99cddaa24b88cd2c93a7cb2de09c6aae91046af4561", func := "countinghouse/countinghouselaw01.ExactsBy", spec := "exactsBy", inPlace := ["math/bits.Add64"], named := ["math/bits.divideError", "math/bits.overflowError"], apart := false }
def ExactsBySaid : Prop := exactsByRow.holds Try.pinned (OpenSpec.ofChange exactsBySpec)

/-- ITS FALSE NEIGHBOUR: 'it returns false'. Refute it at one input. -/
def exactsByWrong : ChangeSpec := { name := "exactsBy", fn := fun _ => fun
  | [d1, d2, d3] => { results := [.lit (.bool false)], args := [d1, d2, d3] }
  | _ => none }
def ExactsByWrongFalsely : Prop := exactsByRow.holds Try.pinned (OpenSpec.ofChange exactsByWrong)

/-- 'countinghouselaw01.ExactsBack': WHATEVER THE INPUT: true; the input reads as it did. -/
def exactsBackSpec : ChangeSpec := { name := "exactsBack", fn := fun _ => fun
  | [d1, d2] => { results := [.lit (.bool true)], args := [d1, d2] }
  | _ => none }
def exactsBackRow : OpenClaim := { program := "ytfbipghjhngncaa", sum := "606f7b059a992f1e8826f99cddaa24b88cd2c93a7cb2de09c6aae91046af4561", func := "countinghouse/countinghouselaw01.ExactsBack", spec := "exactsBack", inPlace := ["math/bits.Add64"], named := ["math/bits.divideError", "math/bits.overflowError"], apart := false }
def ExactsBackSaid : Prop := exactsBackRow.holds Try.pinned (OpenSpec.ofChange exactsBackSpec)

/-- ITS FALSE NEIGHBOUR: 'it returns false'. Refute it at one input. -/
def exactsBackWrong : ChangeSpec := { name := "exactsBack", fn := fun _ => fun
  | [d1, d2] => { results := [.lit (.bool false)], args := [d1, d2] }
  | _ => none }
def ExactsBackWrongFalsely : Prop := exactsBackRow.holds Try.pinned (OpenSpec.ofChange exactsBackWrong)

/-- 'countinghouselaw01.ExactsNear': WHATEVER THE INPUT: true; the input reads as it did. -/
def exactsNearSpec : ChangeSpec := { name := "exactsNear", fn := fun _ => fun
  | [d1, d2, d3] => { results := [.lit (.bool true)], args := [d1, d2, d3] }
  | _ => none }
def exactsNearRow : OpenClaim := { program := "ytfbipghjhngncaa", sum := "606f7b059a992f1e8826f99cddaa24b88cd2c93a7cb2de09c6aae91046af4561", func := "countinghouse/countinghouselaw01.ExactsNear", spec := "exactsNear", inPlace := ["math/bits.Add64", "math/bits.Sub64"], named := ["math/bits.divideError", "math/bits.overflowError"], apart := false }
def ExactsNearSaid : Prop := exactsNearRow.holds Try.pinned (OpenSpec.ofChange exactsNearSpec)

/-- ITS FALSE NEIGHBOUR: 'it returns false'. Refute it at one input. -/
def exactsNearWrong : ChangeSpec := { name := "exactsNear", fn := fun _ => fun
  | [d1, d2, d3] => { results := [.lit (.bool false)], args := [d1, d2, d3] }
  | _ => none }
def ExactsNearWrongFalsely : Prop := exactsNearRow.holds Try.pinned (OpenSpec.ofChange exactsNearWrong)

/-- 'countinghouselaw02.RatsOf': WHATEVER THE INPUT: true; the input reads as it did. -/
def ratsOfSpec : ChangeSpec := { name := "ratsOf", fn := fun _ => fun
  | [d1, d2] => { results := [.lit (.bool true)], args := [d1, d2] }
  | _ => none }
def ratsOfRow : OpenClaim := { program := "ytfbipghjhngncaa", sum := "606f7b059a992f1e8826f99cddaa24b88cd2c93a7cb2de09c6aae91046af4561", func := "countinghouse/countinghouselaw02.RatsOf", spec := "ratsOf", named := ["math/bits.divideError", "math/bits.overflowError"], apart := false }
def RatsOfSaid : Prop := ratsOfRow.holds Try.pinned (OpenSpec.ofChange ratsOfSpec)

/-- ITS FALSE NEIGHBOUR: 'it returns false'. Refute it at one input. -/
def ratsOfWrong : ChangeSpec := { name := "ratsOf", fn := fun _ => fun
  | [d1, d2] => { results := [.lit (.bool false)], args := [d1, d2] }
  | _ => none }
def RatsOfWrongFalsely : Prop := ratsOfRow.holds Try.pinned (OpenSpec.ofChange ratsOfWrong)

/-- 'countinghouselaw02.RatsCompare': WHATEVER THE INPUT: true; the input reads as it did. -/
def ratsCompareSpec : ChangeSpec := { name := "ratsCompare", fn := fun _ => fun
  | [d1, d2] => { results := [.lit (.bool true)], args := [d1, d2] }
  | _ => none }
def ratsCompareRow : OpenClaim := { program := "ytfbipghjhngncaa", sum := "606f7b059a992f1e8826f99cddaa24b88cd2c93a7cb2de09c6aae91046af4561", func := "countinghouse/countinghouselaw02.RatsCompare", spec := "ratsCompare", named := ["math/bits.divideError", "math/bits.overflowError"], apart := false }
def RatsCompareSaid : Prop := ratsCompareRow.holds Try.pinned (OpenSpec.ofChange ratsCompareSpec)

/-- ITS FALSE NEIGHBOUR: 'it returns false'. Refute it at one input. -/
def ratsCompareWrong : ChangeSpec := { name := "ratsCompare", fn := fun _ => fun
  | [d1, d2] => { results := [.lit (.bool false)], args := [d1, d2] }
  | _ => none }
def RatsCompareWrongFalsely : Prop := ratsCompareRow.holds Try.pinned (OpenSpec.ofChange ratsCompareWrong)

/-- 'countinghouselaw02.RatsBy': WHATEVER THE INPUT: true; the input reads as it did. -/
def ratsBySpec : ChangeSpec := { name := "ratsBy", fn := fun _ => fun
  | [d1, d2] => { results := [.lit (.bool true)], args := [d1, d2] }
  | _ => none }
def ratsByRow : OpenClaim := { program := "ytfbipghjhngncaa", sum := "606f7b059a992f1e8826f99cddaa24b88cd2c93a7cb2de09c6aae91046af4561", func := "countinghouse/countinghouselaw02.RatsBy", spec := "ratsBy", named := ["math/bits.divideError", "math/bits.overflowError"], apart := false }
def RatsBySaid : Prop := ratsByRow.holds Try.pinned (OpenSpec.ofChange ratsBySpec)

/-- ITS FALSE NEIGHBOUR: 'it returns false'. Refute it at one input. -/
def ratsByWrong : ChangeSpec := { name := "ratsBy", fn := fun _ => fun
  | [d1, d2] => { results := [.lit (.bool false)], args := [d1, d2] }
  | _ => none }
def RatsByWrongFalsely : Prop := ratsByRow.holds Try.pinned (OpenSpec.ofChange ratsByWrong)

/-- 'countinghouselaw02.RatsOrder': WHATEVER THE INPUT: true; the input reads as it did. -/
def ratsOrderSpec : ChangeSpec := { name := "ratsOrder", fn := fun _ => fun
  | [d1, d2, d3] => { results := [.lit (.bool true)], args := [d1, d2, d3] }
  | _ => none }
def ratsOrderRow : OpenClaim := { program := "ytfbipghjhngncaa", sum := "606f7b059a992f1e8826f99cddaa24b88cd2c93a7cb2de09c6aae91046af4561", func := "countinghouse/countinghouselaw02.RatsOrder", spec := "ratsOrder", named := ["math/bits.divideError", "math/bits.overflowError"], apart := false }
def RatsOrderSaid : Prop := ratsOrderRow.holds Try.pinned (OpenSpec.ofChange ratsOrderSpec)

/-- ITS FALSE NEIGHBOUR: 'it returns false'. Refute it at one input. -/
def ratsOrderWrong : ChangeSpec := { name := "ratsOrder", fn := fun _ => fun
  | [d1, d2, d3] => { results := [.lit (.bool false)], args := [d1, d2, d3] }
  | _ => none }
def RatsOrderWrongFalsely : Prop := ratsOrderRow.holds Try.pinned (OpenSpec.ofChange ratsOrderWrong)

/-- 'countinghouselaw02.RatsFits': WHATEVER THE INPUT: true; the input reads as it did. -/
def ratsFitsSpec : ChangeSpec := { name := "ratsFits", fn := fun _ => fun
  | [d1, d2] => { results := [.lit (.bool true)], args := [d1, d2] }
  | _ => none }
def ratsFitsRow : OpenClaim := { program := "ytfbipghjhngncaa", sum := "606f7b059a992f1e8826f99cddaa24b88cd2c93a7cb2de09c6aae91046af4561", func := "countinghouse/countinghouselaw02.RatsFits", spec := "ratsFits", named := ["math/bits.divideError", "math/bits.overflowError"], apart := false }
def RatsFitsSaid : Prop := ratsFitsRow.holds Try.pinned (OpenSpec.ofChange ratsFitsSpec)

/-- ITS FALSE NEIGHBOUR: 'it returns false'. Refute it at one input. -/
def ratsFitsWrong : ChangeSpec := { name := "ratsFits", fn := fun _ => fun
  | [d1, d2] => { results := [.lit (.bool false)], args := [d1, d2] }
  | _ => none }
def RatsFitsWrongFalsely : Prop := ratsFitsRow.holds Try.pinned (OpenSpec.ofChange ratsFitsWrong)

/-- 'countinghouselaw02.RatsScaled': WHATEVER THE INPUT: true; the input reads as it did. -/
def ratsScaledSpec : ChangeSpec := { name := "ratsScaled", fn := fun _ => fun
  | [d1, d2, d3] => { results := [.lit (.bool true)], args := [d1, d2, d3] }
  | _ => none }
def ratsScaledRow : OpenClaim := { program := "ytfbipghjhngncaa", sum := "606f7b059a992f1e8826f99cddaa24b88cd2c93a7cb2de09c6aae91046af4561", func := "countinghouse/countinghouselaw02.RatsScaled", spec := "ratsScaled", named := ["math/bits.divideError", "math/bits.overflowError"], apart := false }
def RatsScaledSaid : Prop := ratsScaledRow.holds Try.pinned (OpenSpec.ofChange ratsScaledSpec)

/-- ITS FALSE NEIGHBOUR: 'it returns false'. Refute it at one input. -/
def ratsScaledWrong : ChangeSpec := { name := "ratsScaled", fn := fun _ => fun
  | [d1, d2, d3] => { results := [.lit (.bool false)], args := [d1, d2, d3] }
  | _ => none }
def RatsScaledWrongFalsely : Prop := ratsScaledRow.holds Try.pinned (OpenSpec.ofChange ratsScaledWrong)

/- THE SECOND FORM. 'bulk': how many values and letters a reading holds, each counted each time it is reached (what is shared counts as often as it is met; a slice's spare places count too). A statement '..UptoSaid' is the law's where the arguments, and the package variables that the reading takes, are together of bulk at most 1048576: NARROWER than '..Said'. Prove '..Said' where nothing that the law and all that it calls make is longer than what came in: it says more and counts as full. Else prove '..UptoSaid'. A law counts once. -/
mutual
def uptoBulk {H : Type} : DataW H → Nat
  | .lit (.string bytes) => bytes.length + 1
  | .lit _ => 1
  | .nil => 1
  | .ptr d => uptoBulk d + 1
  | .slice elems spare => uptoBulkAll elems + uptoBulkAll spare + 1
  | .agg parts => uptoBulkAll parts + 1
  | .iface _ d => uptoBulk d + 1
  | .map entries => uptoBulkEntries entries + 1
  | .held _ => 1
def uptoBulkAll {H : Type} : List (DataW H) → Nat
  | [] => 0
  | d :: r => uptoBulk d + uptoBulkAll r
def uptoBulkEntries {H : Type} : List (Lit × DataW H) → Nat
  | [] => 0
  | x :: r => uptoBulkEntry x + uptoBulkEntries r
def uptoBulkEntry {H : Type} : Lit × DataW H → Nat
  | (.string bytes, d) => bytes.length + uptoBulk d + 1
  | (_, d) => uptoBulk d + 1
 end
def uptoSmall : (H : Type) → List (DataW H) → Bool := fun _ ds => decide (uptoBulkAll ds ≤ 1048576)
def OpenSpec.upto (s : _root_.Go.ChangeSpec) : _root_.Go.OpenSpec := { _root_.Go.OpenSpec.ofChange s with cond := some uptoSmall }

/-- 'countinghouselaw01.ExactsTwo', WHERE WHAT IT READS IS OF BULK AT MOST 1048576: true; the input reads as it did. -/
def exactsTwoUptoRow : OpenClaim := { program := "ytfbipghjhngncaa", sum := "606f7b059a992f1e8826f99cddaa24b88cd2c93a7cb2de09c6aae91046af4561", func := "countinghouse/countinghouselaw01.ExactsTwo", spec := "exactsTwo", inPlace := ["math/bits.Add64"], named := ["math/bits.divideError", "math/bits.overflowError"], apart := false, narrowed := true }
def ExactsTwoUptoSaid : Prop := exactsTwoUptoRow.holds Try.pinned (OpenSpec.upto exactsTwoSpec)

/-- 'countinghouselaw01.ExactsSum', WHERE WHAT IT READS IS OF BULK AT MOST 1048576: true; the input reads as it did. -/
def exactsSumUptoRow : OpenClaim := { program := "ytfbipghjhngncaa", sum := "606f7b059a992f1e8826f99cddaa24b88cd2c93a7cb2de09c6aae91046af4561", func := "countinghouse/countinghouselaw01.ExactsSum", spec := "exactsSum", inPlace := ["math/bits.Add64"], named := ["math/bits.divideError", "math/bits.overflowError"], apart := false, narrowed := true }
def ExactsSumUptoSaid : Prop := exactsSumUptoRow.holds Try.pinned (OpenSpec.upto exactsSumSpec)

/-- 'countinghouselaw01.ExactsBy', WHERE WHAT IT READS IS OF BULK AT MOST 1048576: true; the input reads as it did. -/
def exactsByUptoRow : OpenClaim := { program := "ytfbipghjhngncaa", sum := "606f7b059a992f1e8826f99cddaa24b88cd2c93a7cb2de09c6aae91046af4561", func := "countinghouse/countinghouselaw01.ExactsBy", spec := "exactsBy", inPlace := ["math/bits.Add64"], named := ["math/bits.divideError", "math/bits.overflowError"], apart := false, narrowed := true }
def ExactsByUptoSaid : Prop := exactsByUptoRow.holds Try.pinned (OpenSpec.upto exactsBySpec)

/-- 'countinghouselaw01.ExactsBack', WHERE WHAT IT READS IS OF BULK AT MOST 1048576: true; the input reads as it did. -/
def exactsBackUptoRow : OpenClaim := { program := "ytfbipghjhngncaa", sum := "606f7b059a992f1e8826f99cddaa24b88cd2c93a7cb2de09c6aae91046af4561", func := "countinghouse/countinghouselaw01.ExactsBack", spec := "exactsBack", inPlace := ["math/bits.Add64"], named := ["math/bits.divideError", "math/bits.overflowError"], apart := false, narrowed := true }
def ExactsBackUptoSaid : Prop := exactsBackUptoRow.holds Try.pinned (OpenSpec.upto exactsBackSpec)

/-- 'countinghouselaw01.ExactsNear', WHERE WHAT IT READS IS OF BULK AT MOST 1048576: true; the input reads as it did. -/
def exactsNearUptoRow : OpenClaim := { program := "ytfbipghjhngncaa", sum := "606f7b059a992f1e8826f99cddaa24b88cd2c93a7cb2de09c6aae91046af4561", func := "countinghouse/countinghouselaw01.ExactsNear", spec := "exactsNear", inPlace := ["math/bits.Add64", "math/bits.Sub64"], named := ["math/bits.divideError", "math/bits.overflowError"], apart := false, narrowed := true }
def ExactsNearUptoSaid : Prop := exactsNearUptoRow.holds Try.pinned (OpenSpec.upto exactsNearSpec)

/-- 'countinghouselaw02.RatsOf', WHERE WHAT IT READS IS OF BULK AT MOST 1048576: true; the input reads as it did. -/
def ratsOfUptoRow : OpenClaim := { program := "ytfbipghjhngncaa", sum := "606f7b059a992f1e8826f99cddaa24b88cd2c93a7cb2de09c6aae91046af4561", func := "countinghouse/countinghouselaw02.RatsOf", spec := "ratsOf", named := ["math/bits.divideError", "math/bits.overflowError"], apart := false, narrowed := true }
def RatsOfUptoSaid : Prop := ratsOfUptoRow.holds Try.pinned (OpenSpec.upto ratsOfSpec)

/-- 'countinghouselaw02.RatsCompare', WHERE WHAT IT READS IS OF BULK AT MOST 1048576: true; the input reads as it did. -/
def ratsCompareUptoRow : OpenClaim := { program := "ytfbipghjhngncaa", sum := "606f7b059a992f1e8826f99cddaa24b88cd2c93a7cb2de09c6aae91046af4561", func := "countinghouse/countinghouselaw02.RatsCompare", spec := "ratsCompare", named := ["math/bits.divideError", "math/bits.overflowError"], apart := false, narrowed := true }
def RatsCompareUptoSaid : Prop := ratsCompareUptoRow.holds Try.pinned (OpenSpec.upto ratsCompareSpec)

/-- 'countinghouselaw02.RatsBy', WHERE WHAT IT READS IS OF BULK AT MOST 1048576: true; the input reads as it did. -/
def ratsByUptoRow : OpenClaim := { program := "ytfbipghjhngncaa", sum := "606f7b059a992f1e8826f99cddaa24b88cd2c93a7cb2de09c6aae91046af4561", func := "countinghouse/countinghouselaw02.RatsBy", spec := "ratsBy", named := ["math/bits.divideError", "math/bits.overflowError"], apart := false, narrowed := true }
def RatsByUptoSaid : Prop := ratsByUptoRow.holds Try.pinned (OpenSpec.upto ratsBySpec)

/-- 'countinghouselaw02.RatsOrder', WHERE WHAT IT READS IS OF BULK AT MOST 1048576: true; the input reads as it did. -/
def ratsOrderUptoRow : OpenClaim := { program := "ytfbipghjhngncaa", sum := "606f7b059a992f1e8826f99cddaa24b88cd2c93a7cb2de09c6aae91046af4561", func := "countinghouse/countinghouselaw02.RatsOrder", spec := "ratsOrder", named := ["math/bits.divideError", "math/bits.overflowError"], apart := false, narrowed := true }
def RatsOrderUptoSaid : Prop := ratsOrderUptoRow.holds Try.pinned (OpenSpec.upto ratsOrderSpec)

/-- 'countinghouselaw02.RatsFits', WHERE WHAT IT READS IS OF BULK AT MOST 1048576: true; the input reads as it did. -/
def ratsFitsUptoRow : OpenClaim := { program := "ytfbipghjhngncaa", sum := "606f7b059a992f1e8826f99cddaa24b88cd2c93a7cb2de09c6aae91046af4561", func := "countinghouse/countinghouselaw02.RatsFits", spec := "ratsFits", named := ["math/bits.divideError", "math/bits.overflowError"], apart := false, narrowed := true }
def RatsFitsUptoSaid : Prop := ratsFitsUptoRow.holds Try.pinned (OpenSpec.upto ratsFitsSpec)

/-- 'countinghouselaw02.RatsScaled', WHERE WHAT IT READS IS OF BULK AT MOST 1048576: true; the input reads as it did. -/
def ratsScaledUptoRow : OpenClaim := { program := "ytfbipghjhngncaa", sum := "606f7b059a992f1e8826f99cddaa24b88cd2c93a7cb2de09c6aae91046af4561", func := "countinghouse/countinghouselaw02.RatsScaled", spec := "ratsScaled", named := ["math/bits.divideError", "math/bits.overflowError"], apart := false, narrowed := true }
def RatsScaledUptoSaid : Prop := ratsScaledUptoRow.holds Try.pinned (OpenSpec.upto ratsScaledSpec)

end Rows
end Go.Proofs.Ytfbipghjhngncaa
