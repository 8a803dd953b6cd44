/-
  No cell of these rows narrows 'for every input' (looked for: loops, veiled, ifaces, maps, wideKeys, modest, calm, conditions, laid).
  DERIVED. THE GIVEN ROWS OF THIS SEAT. 9 by the template 'for every input the law returns true; each argument reads behind the call as it read before'; 0 by the template 'total and deterministic' (their statements: YtgobnamhdkbbeaaTotals.lean).
  GIVEN WITH THE SEED: the statements are not yours to turn. If you find one false, say at which input.
  Laid BY PROGRAM, IN A SANDBOX (cutbox-rows.mjs): the forced cells as the released guide's own fill.sh prints them over the translation 3d36d4ef35b43414… (all of the seat's roots in one cut). By AI agents, Wed Nov 11 2026. No macro, syntax, notation, axiom, sorry.
-/
import Derived.Test.YtgobnamhdkbbeaaChecked
import GoSem.Claim
import GoSem.ClaimJoined
import GoSem.ClaimMapViews
import Derived.JoinedTies
import Derived.KernelRfl
namespace Go.Proofs.Ytgobnamhdkbbeaa
/- THE CELL 'sum', in the pinned program and in every row, IS THE sha256 OF THE DUMP (.gsa) THAT YtgobnamhdkbbeaaProg.lean LOADS. Nothing in Lean hashes anything: it is a label: what it is worth is what the hold of that sum in a sandbox is worth. -/
noncomputable def Try.pinned : Pinned := { name := "ytgobnamhdkbbeaa", sum := "3d36d4ef35b43414420c6a797a593a0d34d14a1ca43d05354f917fe7fb4048b8", checked := Try.checked }
namespace Rows
def none {H : Type} : Left H := { results := [], args := [] }

/-- 'countinghouselaw05.GraphsLedger': WHATEVER THE INPUT: true; the input reads as it did. -/
def graphsLedgerSpec : ChangeSpec := { name := "graphsLedger", fn := fun _ => fun
  | [d1, d2, d3] => { results := [.lit (.bool true)], args := [d1, d2, d3] }
  | _ => none }
def graphsLedgerRow : OpenClaim := { program := "ytgobnamhdkbbeaa", sum := "3d36d4ef35b43414420c6a797a593a0d34d14a1ca43d05354f917fe7fb4048b8", func := "countinghouse/countinghouselaw05.GraphsLedger", spec := "graphsLedger", plainKeys := false, apart := false }
def GraphsLedgerSaid : Prop := graphsLedgerRow.holds Try.pinned (OpenSpec.ofChange graphsLedgerSpec)

/-- ITS FALSE NEIGHBOUR: 'it returns false'. Refute it at one input. -/
def graphsLedgerWrong : ChangeSpec := { name := "graphsLedger", fn := fun _ => fun
  | [d1, d2, d3] => { results := [.lit (.bool false)], args := [d1, d2, d3] }
  | _ => none }
def GraphsLedgerWrongFalsely : Prop := graphsLedgerRow.holds Try.pinned (OpenSpec.ofChange graphsLedgerWrong)

/-- 'countinghouselaw05.GraphsPair': WHATEVER THE INPUT: true; the input reads as it did. -/
def graphsPairSpec : ChangeSpec := { name := "graphsPair", fn := fun _ => fun
  | [d1, d2, d3] => { results := [.lit (.bool true)], args := [d1, d2, d3] }
  | _ => none }
def graphsPairRow : OpenClaim := { program := "ytgobnamhdkbbeaa", sum := "3d36d4ef35b43414420c6a797a593a0d34d14a1ca43d05354f917fe7fb4048b8", func := "countinghouse/countinghouselaw05.GraphsPair", spec := "graphsPair", plainKeys := false, apart := false }
def GraphsPairSaid : Prop := graphsPairRow.holds Try.pinned (OpenSpec.ofChange graphsPairSpec)

/-- ITS FALSE NEIGHBOUR: 'it returns false'. Refute it at one input. -/
def graphsPairWrong : ChangeSpec := { name := "graphsPair", fn := fun _ => fun
  | [d1, d2, d3] => { results := [.lit (.bool false)], args := [d1, d2, d3] }
  | _ => none }
def GraphsPairWrongFalsely : Prop := graphsPairRow.holds Try.pinned (OpenSpec.ofChange graphsPairWrong)

/-- 'countinghouselaw09.PaymentsVoid': WHATEVER THE INPUT: true; the input reads as it did. -/
def paymentsVoidSpec : ChangeSpec := { name := "paymentsVoid", fn := fun _ => fun
  | [d] => { results := [.lit (.bool true)], args := [d] }
  | _ => none }
def paymentsVoidRow : OpenClaim := { program := "ytgobnamhdkbbeaa", sum := "3d36d4ef35b43414420c6a797a593a0d34d14a1ca43d05354f917fe7fb4048b8", func := "countinghouse/countinghouselaw09.PaymentsVoid", spec := "paymentsVoid", inPlace := ["maps.clone"], unfollowed := true, recurses := true, plainKeys := false, apart := false }
def PaymentsVoidSaid : Prop := paymentsVoidRow.holds Try.pinned (OpenSpec.ofChange paymentsVoidSpec)

/-- ITS FALSE NEIGHBOUR: 'it returns false'. Refute it at one input. -/
def paymentsVoidWrong : ChangeSpec := { name := "paymentsVoid", fn := fun _ => fun
  | [d] => { results := [.lit (.bool false)], args := [d] }
  | _ => none }
def PaymentsVoidWrongFalsely : Prop := paymentsVoidRow.holds Try.pinned (OpenSpec.ofChange paymentsVoidWrong)

/-- 'countinghouselaw09.PaymentsPlay': WHATEVER THE INPUT: true; the input reads as it did. -/
def paymentsPlaySpec : ChangeSpec := { name := "paymentsPlay", fn := fun _ => fun
  | [d1, d2] => { results := [.lit (.bool true)], args := [d1, d2] }
  | _ => none }
def paymentsPlayRow : OpenClaim := { program := "ytgobnamhdkbbeaa", sum := "3d36d4ef35b43414420c6a797a593a0d34d14a1ca43d05354f917fe7fb4048b8", func := "countinghouse/countinghouselaw09.PaymentsPlay", spec := "paymentsPlay", inPlace := ["maps.clone"], unfollowed := true, recurses := true, plainKeys := false, apart := false }
def PaymentsPlaySaid : Prop := paymentsPlayRow.holds Try.pinned (OpenSpec.ofChange paymentsPlaySpec)

/-- ITS FALSE NEIGHBOUR: 'it returns false'. Refute it at one input. -/
def paymentsPlayWrong : ChangeSpec := { name := "paymentsPlay", fn := fun _ => fun
  | [d1, d2] => { results := [.lit (.bool false)], args := [d1, d2] }
  | _ => none }
def PaymentsPlayWrongFalsely : Prop := paymentsPlayRow.holds Try.pinned (OpenSpec.ofChange paymentsPlayWrong)

/-- 'countinghouselaw09.PaymentsMoves': WHATEVER THE INPUT: true; the input reads as it did. -/
def paymentsMovesSpec : ChangeSpec := { name := "paymentsMoves", fn := fun _ => fun
  | [d1, d2] => { results := [.lit (.bool true)], args := [d1, d2] }
  | _ => none }
def paymentsMovesRow : OpenClaim := { program := "ytgobnamhdkbbeaa", sum := "3d36d4ef35b43414420c6a797a593a0d34d14a1ca43d05354f917fe7fb4048b8", func := "countinghouse/countinghouselaw09.PaymentsMoves", spec := "paymentsMoves", inPlace := ["maps.clone"], unfollowed := true, recurses := true, plainKeys := false, apart := false }
def PaymentsMovesSaid : Prop := paymentsMovesRow.holds Try.pinned (OpenSpec.ofChange paymentsMovesSpec)

/-- ITS FALSE NEIGHBOUR: 'it returns false'. Refute it at one input. -/
def paymentsMovesWrong : ChangeSpec := { name := "paymentsMoves", fn := fun _ => fun
  | [d1, d2] => { results := [.lit (.bool false)], args := [d1, d2] }
  | _ => none }
def PaymentsMovesWrongFalsely : Prop := paymentsMovesRow.holds Try.pinned (OpenSpec.ofChange paymentsMovesWrong)

/-- 'countinghouselaw09.PaymentsBack': WHATEVER THE INPUT: true; the input reads as it did. -/
def paymentsBackSpec : ChangeSpec := { name := "paymentsBack", fn := fun _ => fun
  | [d1, d2] => { results := [.lit (.bool true)], args := [d1, d2] }
  | _ => none }
def paymentsBackRow : OpenClaim := { program := "ytgobnamhdkbbeaa", sum := "3d36d4ef35b43414420c6a797a593a0d34d14a1ca43d05354f917fe7fb4048b8", func := "countinghouse/countinghouselaw09.PaymentsBack", spec := "paymentsBack", inPlace := ["maps.clone"], unfollowed := true, recurses := true, plainKeys := false, apart := false }
def PaymentsBackSaid : Prop := paymentsBackRow.holds Try.pinned (OpenSpec.ofChange paymentsBackSpec)

/-- ITS FALSE NEIGHBOUR: 'it returns false'. Refute it at one input. -/
def paymentsBackWrong : ChangeSpec := { name := "paymentsBack", fn := fun _ => fun
  | [d1, d2] => { results := [.lit (.bool false)], args := [d1, d2] }
  | _ => none }
def PaymentsBackWrongFalsely : Prop := paymentsBackRow.holds Try.pinned (OpenSpec.ofChange paymentsBackWrong)

/-- 'countinghouselaw13.NettingsVoid': WHATEVER THE INPUT: true; the input reads as it did. -/
def nettingsVoidSpec : ChangeSpec := { name := "nettingsVoid", fn := fun _ => fun
  | [d] => { results := [.lit (.bool true)], args := [d] }
  | _ => none }
def nettingsVoidRow : OpenClaim := { program := "ytgobnamhdkbbeaa", sum := "3d36d4ef35b43414420c6a797a593a0d34d14a1ca43d05354f917fe7fb4048b8", func := "countinghouse/countinghouselaw13.NettingsVoid", spec := "nettingsVoid", inPlace := ["maps.clone"], unfollowed := true, recurses := true, plainKeys := false, apart := false }
def NettingsVoidSaid : Prop := nettingsVoidRow.holds Try.pinned (OpenSpec.ofChange nettingsVoidSpec)

/-- ITS FALSE NEIGHBOUR: 'it returns false'. Refute it at one input. -/
def nettingsVoidWrong : ChangeSpec := { name := "nettingsVoid", fn := fun _ => fun
  | [d] => { results := [.lit (.bool false)], args := [d] }
  | _ => none }
def NettingsVoidWrongFalsely : Prop := nettingsVoidRow.holds Try.pinned (OpenSpec.ofChange nettingsVoidWrong)

/-- 'countinghouselaw13.NettingsRing': WHATEVER THE INPUT: true; the input reads as it did. -/
def nettingsRingSpec : ChangeSpec := { name := "nettingsRing", fn := fun _ => fun
  | [d1, d2] => { results := [.lit (.bool true)], args := [d1, d2] }
  | _ => none }
def nettingsRingRow : OpenClaim := { program := "ytgobnamhdkbbeaa", sum := "3d36d4ef35b43414420c6a797a593a0d34d14a1ca43d05354f917fe7fb4048b8", func := "countinghouse/countinghouselaw13.NettingsRing", spec := "nettingsRing", inPlace := ["maps.clone"], unfollowed := true, recurses := true, plainKeys := false, apart := false }
def NettingsRingSaid : Prop := nettingsRingRow.holds Try.pinned (OpenSpec.ofChange nettingsRingSpec)

/-- ITS FALSE NEIGHBOUR: 'it returns false'. Refute it at one input. -/
def nettingsRingWrong : ChangeSpec := { name := "nettingsRing", fn := fun _ => fun
  | [d1, d2] => { results := [.lit (.bool false)], args := [d1, d2] }
  | _ => none }
def NettingsRingWrongFalsely : Prop := nettingsRingRow.holds Try.pinned (OpenSpec.ofChange nettingsRingWrong)

/-- 'countinghouselaw13.NettingsLeast': WHATEVER THE INPUT: true; the input reads as it did. -/
def nettingsLeastSpec : ChangeSpec := { name := "nettingsLeast", fn := fun _ => fun
  | [d1, d2] => { results := [.lit (.bool true)], args := [d1, d2] }
  | _ => none }
def nettingsLeastRow : OpenClaim := { program := "ytgobnamhdkbbeaa", sum := "3d36d4ef35b43414420c6a797a593a0d34d14a1ca43d05354f917fe7fb4048b8", func := "countinghouse/countinghouselaw13.NettingsLeast", spec := "nettingsLeast", inPlace := ["maps.clone"], unfollowed := true, recurses := true, plainKeys := false, apart := false }
def NettingsLeastSaid : Prop := nettingsLeastRow.holds Try.pinned (OpenSpec.ofChange nettingsLeastSpec)

/-- ITS FALSE NEIGHBOUR: 'it returns false'. Refute it at one input. -/
def nettingsLeastWrong : ChangeSpec := { name := "nettingsLeast", fn := fun _ => fun
  | [d1, d2] => { results := [.lit (.bool false)], args := [d1, d2] }
  | _ => none }
def NettingsLeastWrongFalsely : Prop := nettingsLeastRow.holds Try.pinned (OpenSpec.ofChange nettingsLeastWrong)

/- THE SECOND FORM. 'bulk': how many values and letters a reading holds, each counted each time it is reached (what is shared counts as often as it is met; a slice's spare places count too). A statement '..UptoSaid' is the law's where the arguments, and the package variables that the reading takes, are together of bulk at most 1048576: NARROWER than '..Said'. Prove '..Said' where nothing that the law and all that it calls make is longer than what came in: it says more and counts as full. Else prove '..UptoSaid'. A law counts once. -/
mutual
def uptoBulk {H : Type} : DataW H → Nat
  | .lit (.string bytes) => bytes.length + 1
  | .lit _ => 1
  | .nil => 1
  | .ptr d => uptoBulk d + 1
  | .slice elems spare => uptoBulkAll elems + uptoBulkAll spare + 1
  | .agg parts => uptoBulkAll parts + 1
  | .iface _ d => uptoBulk d + 1
  | .map entries => uptoBulkEntries entries + 1
  | .held _ => 1
def uptoBulkAll {H : Type} : List (DataW H) → Nat
  | [] => 0
  | d :: r => uptoBulk d + uptoBulkAll r
def uptoBulkEntries {H : Type} : List (Lit × DataW H) → Nat
  | [] => 0
  | x :: r => uptoBulkEntry x + uptoBulkEntries r
def uptoBulkEntry {H : Type} : Lit × DataW H → Nat
  | (.string bytes, d) => bytes.length + uptoBulk d + 1
  | (_, d) => uptoBulk d + 1
 end
def uptoSmall : (H : Type) → List (DataW H) → Bool := fun _ ds => decide (uptoBulkAll ds ≤ 1048576)
def OpenSpec.upto (s : _root_.Go.ChangeSpec) : _root_.Go.OpenSpec := { _root_.Go.OpenSpec.ofChange s with cond := some uptoSmall }

/-- 'countinghouselaw05.GraphsLedger', WHERE WHAT IT READS IS OF BULK AT MOST 1048576: true; the input reads as it did. -/
def graphsLedgerUptoRow : OpenClaim := { program := "ytgobnamhdkbbeaa", sum := "3d36d4ef35b43414420c6a797a593a0d34d14a1ca43d05354f917fe7fb4048b8", func := "countinghouse/countinghouselaw05.GraphsLedger", spec := "graphsLedger", plainKeys := false, apart := false, narrowed := true }
def GraphsLedgerUptoSaid : Prop := graphsLedgerUptoRow.holds Try.pinned (OpenSpec.upto graphsLedgerSpec)

/-- 'countinghouselaw05.GraphsPair', WHERE WHAT IT READS IS OF BULK AT MOST 1048576: true; the input reads as it did. -/
def graphsPairUptoRow : OpenClaim := { program := "ytgobnamhdkbbeaa", sum := "3d36d4ef35b43414420c6a797a593a0d34d14a1ca43d05354f917fe7fb4048b8", func := "countinghouse/countinghouselaw05.GraphsPair", spec := "graphsPair", plainKeys := false, apart := false, narrowed := true }
def GraphsPairUptoSaid : Prop := graphsPairUptoRow.holds Try.pinned (OpenSpec.upto graphsPairSpec)

/-- 'countinghouselaw09.PaymentsVoid', WHERE WHAT IT READS IS OF BULK AT MOST 1048576: true; the input reads as it did. -/
def paymentsVoidUptoRow : OpenClaim := { program := "ytgobnamhdkbbeaa", sum := "3d36d4ef35b43414420c6a797a593a0d34d14a1ca43d05354f917fe7fb4048b8", func := "countinghouse/countinghouselaw09.PaymentsVoid", spec := "paymentsVoid", inPlace := ["maps.clone"], unfollowed := true, recurses := true, plainKeys := false, apart := false, narrowed := true }
def PaymentsVoidUptoSaid : Prop := paymentsVoidUptoRow.holds Try.pinned (OpenSpec.upto paymentsVoidSpec)

/-- 'countinghouselaw09.PaymentsPlay', WHERE WHAT IT READS IS OF BULK AT MOST 1048576: true; the input reads as it did. -/
def paymentsPlayUptoRow : OpenClaim := { program := "ytgobnamhdkbbeaa", sum := "3d36d4ef35b43414420c6a797a593a0d34d14a1ca43d05354f917fe7fb4048b8", func := "countinghouse/countinghouselaw09.PaymentsPlay", spec := "paymentsPlay", inPlace := ["maps.clone"], unfollowed := true, recurses := true, plainKeys := false, apart := false, narrowed := true }
def PaymentsPlayUptoSaid : Prop := paymentsPlayUptoRow.holds Try.pinned (OpenSpec.upto paymentsPlaySpec)

/-- 'countinghouselaw09.PaymentsMoves', WHERE WHAT IT READS IS OF BULK AT MOST 1048576: true; the input reads as it did. -/
def paymentsMovesUptoRow : OpenClaim := { program := "ytgobnamhdkbbeaa", sum := "3d36d4ef35b43414420c6a797a593a0d34d14a1ca43d05354f917fe7fb4048b8", func := "countinghouse/countinghouselaw09.PaymentsMoves", spec := "paymentsMoves", inPlace := ["maps.clone"], unfollowed := true, recurses := true, plainKeys := false, apart := false, narrowed := true }
def PaymentsMovesUptoSaid : Prop := paymentsMovesUptoRow.holds Try.pinned (OpenSpec.upto paymentsMovesSpec)

/-- 'countinghouselaw09.PaymentsBack', WHERE WHAT IT READS IS OF BULK AT MOST 1048576: true; the input reads as it did. -/
def paymentsBackUptoRow : OpenClaim := { program := "ytgobnamhdkbbeaa", sum := "3d36d4ef35b43414420c6a797a593a0d34d14a1ca43d05354f917fe7fb4048b8", func := "countinghouse/countinghouselaw09.PaymentsBack", spec := "paymentsBack", inPlace := ["maps.clone"], unfollowed := true, recurses := true, plainKeys := false, apart := false, narrowed := true }
def PaymentsBackUptoSaid : Prop := paymentsBackUptoRow.holds Try.pinned (OpenSpec.upto paymentsBackSpec)

/-- 'countinghouselaw13.NettingsVoid', WHERE WHAT IT READS IS OF BULK AT MOST 1048576: true; the input reads as it did. -/
def nettingsVoidUptoRow : OpenClaim := { program := "ytgobnamhdkbbeaa", sum := "3d36d4ef35b43414420c6a797a593a0d34d14a1ca43d05354f917fe7fb4048b8", func := "countinghouse/countinghouselaw13.NettingsVoid", spec := "nettingsVoid", inPlace := ["maps.clone"], unfollowed := true, recurses := true, plainKeys := false, apart := false, narrowed := true }
def NettingsVoidUptoSaid : Prop := nettingsVoidUptoRow.holds Try.pinned (OpenSpec.upto nettingsVoidSpec)

/-- 'countinghouselaw13.NettingsRing', WHERE WHAT IT READS IS OF BULK AT MOST 1048576: true; the input reads as it did. -/
def nettingsRingUptoRow : OpenClaim := { program := "ytgobnamhdkbbeaa", sum := "3d36d4ef35b43414420c6a797a593a0d34d14a1ca43d05354f917fe7fb4048b8", func := "countinghouse/countinghouselaw13.NettingsRing", spec := "nettingsRing", inPlace := ["maps.clone"], unfollowed := true, recurses := true, plainKeys := false, apart := false, narrowed := true }
def NettingsRingUptoSaid : Prop := nettingsRingUptoRow.holds Try.pinned (OpenSpec.upto nettingsRingSpec)

/-- 'countinghouselaw13.NettingsLeast', WHERE WHAT IT READS IS OF BULK AT MOST 1048576: true; the input reads as it did. -/
def nettingsLeastUptoRow : OpenClaim := { program := "ytgobnamhdkbbeaa", sum := "3d36d4ef35b43414420c6a797a593a0d34d14a1ca43d05354f917fe7fb4048b8", func := "countinghouse/countinghouselaw13.NettingsLeast", spec := "nettingsLeast", inPlace := ["maps.clone"], unfollowed := true, recurses := true, plainKeys := false, apart := false, narrowed := true }
def NettingsLeastUptoSaid : Prop := nettingsLeastUptoRow.holds Try.pinned (OpenSpec.upto nettingsLeastSpec)

end Rows
end Go.Proofs.Ytgobnamhdkbbeaa
