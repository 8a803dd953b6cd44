/-
  No cell of these rows narrows 'for every input' (looked for: loops, veiled, ifaces, maps, wideKeys, modest, calm, conditions, laid).
  DERIVED. THE GIVEN ROWS OF THIS SEAT. 4 by the template 'for every input the law returns true; each argument reads behind the call as it read before'; 0 by the template 'total and deterministic' (their statements: YtbmmdfjabkpoeaaTotals.lean).
  GIVEN WITH THE SEED: the statements are not yours to turn. If you find one false, say at which input.
  Laid BY PROGRAM, IN A SANDBOX (cutbox-rows.mjs): the forced cells as the released guide's own fill.sh prints them over the translation c50ee0f1168cf69c… (all of the seat's roots in one cut). By AI agents, Wed Nov 11 2026. No macro, syntax, notation, axiom, sorry.
-/
import Derived.Test.YtbmmdfjabkpoeaaChecked
import GoSem.Claim
import GoSem.ClaimJoined
import GoSem.ClaimMapViews
import Derived.JoinedTies
import Derived.KernelRfl
namespace Go.Proofs.Ytbmmdfjabkpoeaa
/- THE CELL 'sum', in the pinned program and in every row, IS THE sha256 OF THE DUMP (.gsa) THAT YtbmmdfjabkpoeaaProg.lean LOADS. Nothing in Lean hashes anything: it is a label: what it is worth is what the hold of that sum in a sandbox is worth. -/
noncomputable def Try.pinned : Pinned := { name := "ytbmmdfjabkpoeaa", sum := "c50ee0f1168cf69c03bc796c698c61d16709785a6c5bdb965776aae802040e4e", checked := Try.checked }
namespace Rows
def none {H : Type} : Left H := { results := [], args := [] }

/-- 'countinghouselaw08.RoundsLeast': WHATEVER THE INPUT: true; the input reads as it did. -/
def roundsLeastSpec : ChangeSpec := { name := "roundsLeast", fn := fun _ => fun
  | [d1, d2] => { results := [.lit (.bool true)], args := [d1, d2] }
  | _ => none }
def roundsLeastRow : OpenClaim := { program := "ytbmmdfjabkpoeaa", sum := "c50ee0f1168cf69c03bc796c698c61d16709785a6c5bdb965776aae802040e4e", func := "countinghouse/countinghouselaw08.RoundsLeast", spec := "roundsLeast", unfollowed := true, recurses := true, apart := false }
def RoundsLeastSaid : Prop := roundsLeastRow.holds Try.pinned (OpenSpec.ofChange roundsLeastSpec)

/-- ITS FALSE NEIGHBOUR: 'it returns false'. Refute it at one input. -/
def roundsLeastWrong : ChangeSpec := { name := "roundsLeast", fn := fun _ => fun
  | [d1, d2] => { results := [.lit (.bool false)], args := [d1, d2] }
  | _ => none }
def RoundsLeastWrongFalsely : Prop := roundsLeastRow.holds Try.pinned (OpenSpec.ofChange roundsLeastWrong)

/-- 'countinghouselaw08.RoundsFair': WHATEVER THE INPUT: true; the input reads as it did. -/
def roundsFairSpec : ChangeSpec := { name := "roundsFair", fn := fun _ => fun
  | [d] => { results := [.lit (.bool true)], args := [d] }
  | _ => none }
def roundsFairRow : OpenClaim := { program := "ytbmmdfjabkpoeaa", sum := "c50ee0f1168cf69c03bc796c698c61d16709785a6c5bdb965776aae802040e4e", func := "countinghouse/countinghouselaw08.RoundsFair", spec := "roundsFair", unfollowed := true, recurses := true, apart := false }
def RoundsFairSaid : Prop := roundsFairRow.holds Try.pinned (OpenSpec.ofChange roundsFairSpec)

/-- ITS FALSE NEIGHBOUR: 'it returns false'. Refute it at one input. -/
def roundsFairWrong : ChangeSpec := { name := "roundsFair", fn := fun _ => fun
  | [d] => { results := [.lit (.bool false)], args := [d] }
  | _ => none }
def RoundsFairWrongFalsely : Prop := roundsFairRow.holds Try.pinned (OpenSpec.ofChange roundsFairWrong)

/-- 'countinghouselaw08.RoundsQuota': WHATEVER THE INPUT: true; the input reads as it did. -/
def roundsQuotaSpec : ChangeSpec := { name := "roundsQuota", fn := fun _ => fun
  | [d] => { results := [.lit (.bool true)], args := [d] }
  | _ => none }
def roundsQuotaRow : OpenClaim := { program := "ytbmmdfjabkpoeaa", sum := "c50ee0f1168cf69c03bc796c698c61d16709785a6c5bdb965776aae802040e4e", func := "countinghouse/countinghouselaw08.RoundsQuota", spec := "roundsQuota", unfollowed := true, recurses := true, apart := false }
def RoundsQuotaSaid : Prop := roundsQuotaRow.holds Try.pinned (OpenSpec.ofChange roundsQuotaSpec)

/-- ITS FALSE NEIGHBOUR: 'it returns false'. Refute it at one input. -/
def roundsQuotaWrong : ChangeSpec := { name := "roundsQuota", fn := fun _ => fun
  | [d] => { results := [.lit (.bool false)], args := [d] }
  | _ => none }
def RoundsQuotaWrongFalsely : Prop := roundsQuotaRow.holds Try.pinned (OpenSpec.ofChange roundsQuotaWrong)

/-- 'countinghouselaw08.RoundsRing': WHATEVER THE INPUT: true; the input reads as it did. -/
def roundsRingSpec : ChangeSpec := { name := "roundsRing", fn := fun _ => fun
  | [d1, d2] => { results := [.lit (.bool true)], args := [d1, d2] }
  | _ => none }
def roundsRingRow : OpenClaim := { program := "ytbmmdfjabkpoeaa", sum := "c50ee0f1168cf69c03bc796c698c61d16709785a6c5bdb965776aae802040e4e", func := "countinghouse/countinghouselaw08.RoundsRing", spec := "roundsRing", unfollowed := true, recurses := true, apart := false }
def RoundsRingSaid : Prop := roundsRingRow.holds Try.pinned (OpenSpec.ofChange roundsRingSpec)

/-- ITS FALSE NEIGHBOUR: 'it returns false'. Refute it at one input. -/
def roundsRingWrong : ChangeSpec := { name := "roundsRing", fn := fun _ => fun
  | [d1, d2] => { results := [.lit (.bool false)], args := [d1, d2] }
  | _ => none }
def RoundsRingWrongFalsely : Prop := roundsRingRow.holds Try.pinned (OpenSpec.ofChange roundsRingWrong)

/- THE SECOND FORM. 'bulk': how many values and letters a reading holds, each counted each time it is reached (what is shared counts as often as it is met; a slice's spare places count too). A statement '..UptoSaid' is the law's where the arguments, and the package variables that the reading takes, are together of bulk at most 1048576: NARROWER than '..Said'. Prove '..Said' where nothing that the law and all that it calls make is longer than what came in: it says more and counts as full. Else prove '..UptoSaid'. A law counts once. -/
mutual
def uptoBulk {H : Type} : DataW H → Nat
  | .lit (.string bytes) => bytes.length + 1
  | .lit _ => 1
  | .nil => 1
  | .ptr d => uptoBulk d + 1
  | .slice elems spare => uptoBulkAll elems + uptoBulkAll spare + 1
  | .agg parts => uptoBulkAll parts + 1
  | .iface _ d => uptoBulk d + 1
  | .map entries => uptoBulkEntries entries + 1
  | .held _ => 1
def uptoBulkAll {H : Type} : List (DataW H) → Nat
  | [] => 0
  | d :: r => uptoBulk d + uptoBulkAll r
def uptoBulkEntries {H : Type} : List (Lit × DataW H) → Nat
  | [] => 0
  | x :: r => uptoBulkEntry x + uptoBulkEntries r
def uptoBulkEntry {H : Type} : Lit × DataW H → Nat
  | (.string bytes, d) => bytes.length + uptoBulk d + 1
  | (_, d) => uptoBulk d + 1
 end
def uptoSmall : (H : Type) → List (DataW H) → Bool := fun _ ds => decide (uptoBulkAll ds ≤ 1048576)
def OpenSpec.upto (s : _root_.Go.ChangeSpec) : _root_.Go.OpenSpec := { _root_.Go.OpenSpec.ofChange s with cond := some uptoSmall }

/-- 'countinghouselaw08.RoundsLeast', WHERE WHAT IT READS IS OF BULK AT MOST 1048576: true; the input reads as it did. -/
def roundsLeastUptoRow : OpenClaim := { program := "ytbmmdfjabkpoeaa", sum := "c50ee0f1168cf69c03bc796c698c61d16709785a6c5bdb965776aae802040e4e", func := "countinghouse/countinghouselaw08.RoundsLeast", spec := "roundsLeast", unfollowed := true, recurses := true, apart := false, narrowed := true }
def RoundsLeastUptoSaid : Prop := roundsLeastUptoRow.holds Try.pinned (OpenSpec.upto roundsLeastSpec)

/-- 'countinghouselaw08.RoundsFair', WHERE WHAT IT READS IS OF BULK AT MOST 1048576: true; the input reads as it did. -/
def roundsFairUptoRow : OpenClaim := { program := "ytbmmdfjabkpoeaa", sum := "c50ee0f1168cf69c03bc796c698c61d16709785a6c5bdb965776aae802040e4e", func := "countinghouse/countinghouselaw08.RoundsFair", spec := "roundsFair", unfollowed := true, recurses := true, apart := false, narrowed := true }
def RoundsFairUptoSaid : Prop := roundsFairUptoRow.holds Try.pinned (OpenSpec.upto roundsFairSpec)

/-- 'countinghouselaw08.RoundsQuota', WHERE WHAT IT READS IS OF BULK AT MOST 1048576: true; the input reads as it did. -/
def roundsQuotaUptoRow : OpenClaim := { program := "ytbmmdfjabkpoeaa", sum := "c50ee0f1168cf69c03bc796c698c61d16709785a6c5bdb965776aae802040e4e", func := "countinghouse/countinghouselaw08.RoundsQuota", spec := "roundsQuota", unfollowed := true, recurses := true, apart := false, narrowed := true }
def RoundsQuotaUptoSaid : Prop := roundsQuotaUptoRow.holds Try.pinned (OpenSpec.upto roundsQuotaSpec)

/-- 'countinghouselaw08.RoundsRing', WHERE WHAT IT READS IS OF BULK AT MOST 1048576: true; the input reads as it did. -/
def roundsRingUptoRow : OpenClaim := { program := "ytbmmdfjabkpoeaa", sum := "c50ee0f1168cf69c03bc796c698c61d16709785a6c5bdb965776aae802040e4e", func := "countinghouse/countinghouselaw08.RoundsRing", spec := "roundsRing", unfollowed := true, recurses := true, apart := false, narrowed := true }
def RoundsRingUptoSaid : Prop := roundsRingUptoRow.holds Try.pinned (OpenSpec.upto roundsRingSpec)

end Rows
end Go.Proofs.Ytbmmdfjabkpoeaa
