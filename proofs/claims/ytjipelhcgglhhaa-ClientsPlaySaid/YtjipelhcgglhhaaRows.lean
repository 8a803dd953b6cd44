/-
  No cell of these rows narrows 'for every input' (looked for: loops, veiled, ifaces, maps, wideKeys, modest, calm, conditions, laid).
  DERIVED. THE GIVEN ROWS OF THIS SEAT. 3 by the template 'for every input the law returns true; each argument reads behind the call as it read before'; 0 by the template 'total and deterministic' (their statements: YtjipelhcgglhhaaTotals.lean).
  GIVEN WITH THE SEED: the statements are not yours to turn. If you find one false, say at which input.
  Laid BY PROGRAM, IN A SANDBOX (cutbox-rows.mjs): the forced cells as the released guide's own fill.sh prints them over the translation c285440ac304aaa9… (all of the seat's roots in one cut). By AI agents, Wed Nov 11 2026. No macro, syntax, notation, axiom, sorry.
-/
import Derived.Test.YtjipelhcgglhhaaChecked
import GoSem.Claim
import GoSem.ClaimJoined
import GoSem.ClaimMapViews
import Derived.JoinedTies
import Derived.KernelRfl
namespace Go.Proofs.Ytjipelhcgglhhaa
/- THE CELL 'sum', in the pinned program and in every row, IS THE sha256 OF THE DUMP (.gsa) THAT YtjipelhcgglhhaaProg.lean LOADS. Nothing in Lean hashes anything: it is a label: what it is worth is what the hold of that sum in a sandbox is worth. -/
noncomputable def Try.pinned : Pinned := { name := "ytjipelhcgglhhaa", sum := "c285440ac304aaa928f1df885a58c33cb9ae9fd51b63ba518986375ac36e0920", checked := Try.checked }
namespace Rows
def none {H : Type} : Left H := { results := [], args := [] }

/-- 'countinghouselaw27.ClientsVoid': WHATEVER THE INPUT: true; the input reads as it did. -/
def clientsVoidSpec : ChangeSpec := { name := "clientsVoid", fn := fun _ => fun
  | [d] => { results := [.lit (.bool true)], args := [d] }
  | _ => none }
def clientsVoidRow : OpenClaim := { program := "ytjipelhcgglhhaa", sum := "c285440ac304aaa928f1df885a58c33cb9ae9fd51b63ba518986375ac36e0920", func := "countinghouse/countinghouselaw27.ClientsVoid", spec := "clientsVoid", unfollowed := true, recurses := true, apart := false }
def ClientsVoidSaid : Prop := clientsVoidRow.holds Try.pinned (OpenSpec.ofChange clientsVoidSpec)

/-- ITS FALSE NEIGHBOUR: 'it returns false'. Refute it at one input. -/
def clientsVoidWrong : ChangeSpec := { name := "clientsVoid", fn := fun _ => fun
  | [d] => { results := [.lit (.bool false)], args := [d] }
  | _ => none }
def ClientsVoidWrongFalsely : Prop := clientsVoidRow.holds Try.pinned (OpenSpec.ofChange clientsVoidWrong)

/-- 'countinghouselaw27.ClientsAround': WHATEVER THE INPUT: true; the input reads as it did. -/
def clientsAroundSpec : ChangeSpec := { name := "clientsAround", fn := fun _ => fun
  | [d1, d2, d3] => { results := [.lit (.bool true)], args := [d1, d2, d3] }
  | _ => none }
def clientsAroundRow : OpenClaim := { program := "ytjipelhcgglhhaa", sum := "c285440ac304aaa928f1df885a58c33cb9ae9fd51b63ba518986375ac36e0920", func := "countinghouse/countinghouselaw27.ClientsAround", spec := "clientsAround", unfollowed := true, recurses := true, apart := false }
def ClientsAroundSaid : Prop := clientsAroundRow.holds Try.pinned (OpenSpec.ofChange clientsAroundSpec)

/-- ITS FALSE NEIGHBOUR: 'it returns false'. Refute it at one input. -/
def clientsAroundWrong : ChangeSpec := { name := "clientsAround", fn := fun _ => fun
  | [d1, d2, d3] => { results := [.lit (.bool false)], args := [d1, d2, d3] }
  | _ => none }
def ClientsAroundWrongFalsely : Prop := clientsAroundRow.holds Try.pinned (OpenSpec.ofChange clientsAroundWrong)

/-- 'countinghouselaw27.ClientsPlay': WHATEVER THE INPUT: true; the input reads as it did. -/
def clientsPlaySpec : ChangeSpec := { name := "clientsPlay", fn := fun _ => fun
  | [d1, d2, d3] => { results := [.lit (.bool true)], args := [d1, d2, d3] }
  | _ => none }
def clientsPlayRow : OpenClaim := { program := "ytjipelhcgglhhaa", sum := "c285440ac304aaa928f1df885a58c33cb9ae9fd51b63ba518986375ac36e0920", func := "countinghouse/countinghouselaw27.ClientsPlay", spec := "clientsPlay", unfollowed := true, recurses := true, apart := false }
def ClientsPlaySaid : Prop := clientsPlayRow.holds Try.pinned (OpenSpec.ofChange clientsPlaySpec)

/-- ITS FALSE NEIGHBOUR: 'it returns false'. Refute it at one input. -/
def clientsPlayWrong : ChangeSpec := { name := "clientsPlay", fn := fun _ => fun
  | [d1, d2, d3] => { results := [.lit (.bool false)], args := [d1, d2, d3] }
  | _ => none }
def ClientsPlayWrongFalsely : Prop := clientsPlayRow.holds Try.pinned (OpenSpec.ofChange clientsPlayWrong)

/- THE SECOND FORM. 'bulk': how many values and letters a reading holds, each counted each time it is reached (what is shared counts as often as it is met; a slice's spare places count too). A statement '..UptoSaid' is the law's where the arguments, and the package variables that the reading takes, are together of bulk at most 1048576: NARROWER than '..Said'. Prove '..Said' where nothing that the law and all that it calls make is longer than what came in: it says more and counts as full. Else prove '..UptoSaid'. A law counts once. -/
mutual
def uptoBulk {H : Type} : DataW H → Nat
  | .lit (.string bytes) => bytes.length + 1
  | .lit _ => 1
  | .nil => 1
  | .ptr d => uptoBulk d + 1
  | .slice elems spare => uptoBulkAll elems + uptoBulkAll spare + 1
  | .agg parts => uptoBulkAll parts + 1
  | .iface _ d => uptoBulk d + 1
  | .map entries => uptoBulkEntries entries + 1
  | .held _ => 1
def uptoBulkAll {H : Type} : List (DataW H) → Nat
  | [] => 0
  | d :: r => uptoBulk d + uptoBulkAll r
def uptoBulkEntries {H : Type} : List (Lit × DataW H) → Nat
  | [] => 0
  | x :: r => uptoBulkEntry x + uptoBulkEntries r
def uptoBulkEntry {H : Type} : Lit × DataW H → Nat
  | (.string bytes, d) => bytes.length + uptoBulk d + 1
  | (_, d) => uptoBulk d + 1
 end
def uptoSmall : (H : Type) → List (DataW H) → Bool := fun _ ds => decide (uptoBulkAll ds ≤ 1048576)
def OpenSpec.upto (s : _root_.Go.ChangeSpec) : _root_.Go.OpenSpec := { _root_.Go.OpenSpec.ofChange s with cond := some uptoSmall }

/-- 'countinghouselaw27.ClientsVoid', WHERE WHAT IT READS IS OF BULK AT MOST 1048576: true; the input reads as it did. -/
def clientsVoidUptoRow : OpenClaim := { program := "ytjipelhcgglhhaa", sum := "c285440ac304aaa928f1df885a58c33cb9ae9fd51b63ba518986375ac36e0920", func := "countinghouse/countinghouselaw27.ClientsVoid", spec := "clientsVoid", unfollowed := true, recurses := true, apart := false, narrowed := true }
def ClientsVoidUptoSaid : Prop := clientsVoidUptoRow.holds Try.pinned (OpenSpec.upto clientsVoidSpec)

/-- 'countinghouselaw27.ClientsAround', WHERE WHAT IT READS IS OF BULK AT MOST 1048576: true; the input reads as it did. -/
def clientsAroundUptoRow : OpenClaim := { program := "ytjipelhcgglhhaa", sum := "c285440ac304aaa928f1df885a58c33cb9ae9fd51b63ba518986375ac36e0920", func := "countinghouse/countinghouselaw27.ClientsAround", spec := "clientsAround", unfollowed := true, recurses := true, apart := false, narrowed := true }
def ClientsAroundUptoSaid : Prop := clientsAroundUptoRow.holds Try.pinned (OpenSpec.upto clientsAroundSpec)

/-- 'countinghouselaw27.ClientsPlay', WHERE WHAT IT READS IS OF BULK AT MOST 1048576: true; the input reads as it did. -/
def clientsPlayUptoRow : OpenClaim := { program := "ytjipelhcgglhhaa", sum := "c285440ac304aaa928f1df885a58c33cb9ae9fd51b63ba518986375ac36e0920", func := "countinghouse/countinghouselaw27.ClientsPlay", spec := "clientsPlay", unfollowed := true, recurses := true, apart := false, narrowed := true }
def ClientsPlayUptoSaid : Prop := clientsPlayUptoRow.holds Try.pinned (OpenSpec.upto clientsPlaySpec)

end Rows
end Go.Proofs.Ytjipelhcgglhhaa
