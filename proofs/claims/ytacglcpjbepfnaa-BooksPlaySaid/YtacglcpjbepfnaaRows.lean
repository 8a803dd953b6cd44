/-
  No cell of these rows narrows 'for every input' (looked for: loops, veiled, ifaces, maps, wideKeys, modest, calm, conditions, laid).
  DERIVED. THE GIVEN ROWS OF THIS SEAT. 12 by the template 'for every input the law returns true; each argument reads behind the call as it read before'; 0 by the template 'total and deterministic' (their statements: YtacglcpjbepfnaaTotals.lean).
  GIVEN WITH THE SEED: the statements are not yours to turn. If you find one false, say at which input.
  Laid BY PROGRAM, IN A SANDBOX (cutbox-rows.mjs): the forced cells as the released guide's own fill.sh prints them over the translation 514f0483f83fb666… (all of the seat's roots in one cut). By AI agents, Wed Nov 11 2026. No macro, syntax, notation, axiom, sorry.
-/
import Derived.Test.YtacglcpjbepfnaaChecked
import GoSem.Claim
import GoSem.ClaimJoined
import GoSem.ClaimMapViews
import Derived.JoinedTies
import Derived.KernelRfl
namespace Go.Proofs.Ytacglcpjbepfnaa
/- THE CELL 'sum', in the pinned program and in every row, IS THE sha256 OF THE DUMP (.gsa) THAT YtacglcpjbepfnaaProg.lean LOADS. Nothing in Lean hashes anything: it is a label: what it is worth is what the hold of that sum in a sandbox is worth. -/
noncomputable def Try.pinned : Pinned := { name := "ytacglcpjbepfnaa", sum := "514f0483f83fb666785d4596a7a2a555513df435c0ec6fc5a5b40fff446cee14", checked := Try.checked }
namespace Rows
def none {H : Type} : Left H := { results := [], args := [] }

/-- 'countinghouselaw03.LedgersPush': WHATEVER THE INPUT: true; the input reads as it did. -/
def ledgersPushSpec : ChangeSpec := { name := "ledgersPush", fn := fun _ => fun
  | [d1, d2] => { results := [.lit (.bool true)], args := [d1, d2] }
  | _ => none }
def ledgersPushRow : OpenClaim := { program := "ytacglcpjbepfnaa", sum := "514f0483f83fb666785d4596a7a2a555513df435c0ec6fc5a5b40fff446cee14", func := "countinghouse/countinghouselaw03.LedgersPush", spec := "ledgersPush", inPlace := ["maps.clone"], unfollowed := true, recurses := true, plainKeys := false, apart := false }
def LedgersPushSaid : Prop := ledgersPushRow.holds Try.pinned (OpenSpec.ofChange ledgersPushSpec)

/-- ITS FALSE NEIGHBOUR: 'it returns false'. Refute it at one input. -/
def ledgersPushWrong : ChangeSpec := { name := "ledgersPush", fn := fun _ => fun
  | [d1, d2] => { results := [.lit (.bool false)], args := [d1, d2] }
  | _ => none }
def LedgersPushWrongFalsely : Prop := ledgersPushRow.holds Try.pinned (OpenSpec.ofChange ledgersPushWrong)

/-- 'countinghouselaw03.LedgersBack': WHATEVER THE INPUT: true; the input reads as it did. -/
def ledgersBackSpec : ChangeSpec := { name := "ledgersBack", fn := fun _ => fun
  | [d1, d2] => { results := [.lit (.bool true)], args := [d1, d2] }
  | _ => none }
def ledgersBackRow : OpenClaim := { program := "ytacglcpjbepfnaa", sum := "514f0483f83fb666785d4596a7a2a555513df435c0ec6fc5a5b40fff446cee14", func := "countinghouse/countinghouselaw03.LedgersBack", spec := "ledgersBack", inPlace := ["maps.clone"], unfollowed := true, recurses := true, plainKeys := false, apart := false }
def LedgersBackSaid : Prop := ledgersBackRow.holds Try.pinned (OpenSpec.ofChange ledgersBackSpec)

/-- ITS FALSE NEIGHBOUR: 'it returns false'. Refute it at one input. -/
def ledgersBackWrong : ChangeSpec := { name := "ledgersBack", fn := fun _ => fun
  | [d1, d2] => { results := [.lit (.bool false)], args := [d1, d2] }
  | _ => none }
def LedgersBackWrongFalsely : Prop := ledgersBackRow.holds Try.pinned (OpenSpec.ofChange ledgersBackWrong)

/-- 'countinghouselaw03.LedgersOf': WHATEVER THE INPUT: true; the input reads as it did. -/
def ledgersOfSpec : ChangeSpec := { name := "ledgersOf", fn := fun _ => fun
  | [d1, d2] => { results := [.lit (.bool true)], args := [d1, d2] }
  | _ => none }
def ledgersOfRow : OpenClaim := { program := "ytacglcpjbepfnaa", sum := "514f0483f83fb666785d4596a7a2a555513df435c0ec6fc5a5b40fff446cee14", func := "countinghouse/countinghouselaw03.LedgersOf", spec := "ledgersOf", unfollowed := true, recurses := true, plainKeys := false, apart := false }
def LedgersOfSaid : Prop := ledgersOfRow.holds Try.pinned (OpenSpec.ofChange ledgersOfSpec)

/-- ITS FALSE NEIGHBOUR: 'it returns false'. Refute it at one input. -/
def ledgersOfWrong : ChangeSpec := { name := "ledgersOf", fn := fun _ => fun
  | [d1, d2] => { results := [.lit (.bool false)], args := [d1, d2] }
  | _ => none }
def LedgersOfWrongFalsely : Prop := ledgersOfRow.holds Try.pinned (OpenSpec.ofChange ledgersOfWrong)

/-- 'countinghouselaw03.LedgersPlay': WHATEVER THE INPUT: true; the input reads as it did. -/
def ledgersPlaySpec : ChangeSpec := { name := "ledgersPlay", fn := fun _ => fun
  | [d] => { results := [.lit (.bool true)], args := [d] }
  | _ => none }
def ledgersPlayRow : OpenClaim := { program := "ytacglcpjbepfnaa", sum := "514f0483f83fb666785d4596a7a2a555513df435c0ec6fc5a5b40fff446cee14", func := "countinghouse/countinghouselaw03.LedgersPlay", spec := "ledgersPlay", inPlace := ["maps.clone"], unfollowed := true, recurses := true, plainKeys := false, apart := false }
def LedgersPlaySaid : Prop := ledgersPlayRow.holds Try.pinned (OpenSpec.ofChange ledgersPlaySpec)

/-- ITS FALSE NEIGHBOUR: 'it returns false'. Refute it at one input. -/
def ledgersPlayWrong : ChangeSpec := { name := "ledgersPlay", fn := fun _ => fun
  | [d] => { results := [.lit (.bool false)], args := [d] }
  | _ => none }
def LedgersPlayWrongFalsely : Prop := ledgersPlayRow.holds Try.pinned (OpenSpec.ofChange ledgersPlayWrong)

/-- 'countinghouselaw03.LedgersVoid': WHATEVER THE INPUT: true; the input reads as it did. -/
def ledgersVoidSpec : ChangeSpec := { name := "ledgersVoid", fn := fun _ => fun
  | [d] => { results := [.lit (.bool true)], args := [d] }
  | _ => none }
def ledgersVoidRow : OpenClaim := { program := "ytacglcpjbepfnaa", sum := "514f0483f83fb666785d4596a7a2a555513df435c0ec6fc5a5b40fff446cee14", func := "countinghouse/countinghouselaw03.LedgersVoid", spec := "ledgersVoid", inPlace := ["maps.clone"], unfollowed := true, recurses := true, plainKeys := false, apart := false }
def LedgersVoidSaid : Prop := ledgersVoidRow.holds Try.pinned (OpenSpec.ofChange ledgersVoidSpec)

/-- ITS FALSE NEIGHBOUR: 'it returns false'. Refute it at one input. -/
def ledgersVoidWrong : ChangeSpec := { name := "ledgersVoid", fn := fun _ => fun
  | [d] => { results := [.lit (.bool false)], args := [d] }
  | _ => none }
def LedgersVoidWrongFalsely : Prop := ledgersVoidRow.holds Try.pinned (OpenSpec.ofChange ledgersVoidWrong)

/-- 'countinghouselaw03.LedgersTold': WHATEVER THE INPUT: true; the input reads as it did. -/
def ledgersToldSpec : ChangeSpec := { name := "ledgersTold", fn := fun _ => fun
  | [d1, d2] => { results := [.lit (.bool true)], args := [d1, d2] }
  | _ => none }
def ledgersToldRow : OpenClaim := { program := "ytacglcpjbepfnaa", sum := "514f0483f83fb666785d4596a7a2a555513df435c0ec6fc5a5b40fff446cee14", func := "countinghouse/countinghouselaw03.LedgersTold", spec := "ledgersTold", unfollowed := true, recurses := true, plainKeys := false, apart := false }
def LedgersToldSaid : Prop := ledgersToldRow.holds Try.pinned (OpenSpec.ofChange ledgersToldSpec)

/-- ITS FALSE NEIGHBOUR: 'it returns false'. Refute it at one input. -/
def ledgersToldWrong : ChangeSpec := { name := "ledgersTold", fn := fun _ => fun
  | [d1, d2] => { results := [.lit (.bool false)], args := [d1, d2] }
  | _ => none }
def LedgersToldWrongFalsely : Prop := ledgersToldRow.holds Try.pinned (OpenSpec.ofChange ledgersToldWrong)

/-- 'countinghouselaw04.BooksBest': WHATEVER THE INPUT: true; the input reads as it did. -/
def booksBestSpec : ChangeSpec := { name := "booksBest", fn := fun _ => fun
  | [d1, d2, d3] => { results := [.lit (.bool true)], args := [d1, d2, d3] }
  | _ => none }
def booksBestRow : OpenClaim := { program := "ytacglcpjbepfnaa", sum := "514f0483f83fb666785d4596a7a2a555513df435c0ec6fc5a5b40fff446cee14", func := "countinghouse/countinghouselaw04.BooksBest", spec := "booksBest", unfollowed := true, recurses := true, plainKeys := false, apart := false }
def BooksBestSaid : Prop := booksBestRow.holds Try.pinned (OpenSpec.ofChange booksBestSpec)

/-- ITS FALSE NEIGHBOUR: 'it returns false'. Refute it at one input. -/
def booksBestWrong : ChangeSpec := { name := "booksBest", fn := fun _ => fun
  | [d1, d2, d3] => { results := [.lit (.bool false)], args := [d1, d2, d3] }
  | _ => none }
def BooksBestWrongFalsely : Prop := booksBestRow.holds Try.pinned (OpenSpec.ofChange booksBestWrong)

/-- 'countinghouselaw04.BooksOnce': WHATEVER THE INPUT: true; the input reads as it did. -/
def booksOnceSpec : ChangeSpec := { name := "booksOnce", fn := fun _ => fun
  | [d1, d2] => { results := [.lit (.bool true)], args := [d1, d2] }
  | _ => none }
def booksOnceRow : OpenClaim := { program := "ytacglcpjbepfnaa", sum := "514f0483f83fb666785d4596a7a2a555513df435c0ec6fc5a5b40fff446cee14", func := "countinghouse/countinghouselaw04.BooksOnce", spec := "booksOnce", unfollowed := true, recurses := true, plainKeys := false, apart := false }
def BooksOnceSaid : Prop := booksOnceRow.holds Try.pinned (OpenSpec.ofChange booksOnceSpec)

/-- ITS FALSE NEIGHBOUR: 'it returns false'. Refute it at one input. -/
def booksOnceWrong : ChangeSpec := { name := "booksOnce", fn := fun _ => fun
  | [d1, d2] => { results := [.lit (.bool false)], args := [d1, d2] }
  | _ => none }
def BooksOnceWrongFalsely : Prop := booksOnceRow.holds Try.pinned (OpenSpec.ofChange booksOnceWrong)

/-- 'countinghouselaw04.BooksVoid': WHATEVER THE INPUT: true; the input reads as it did. -/
def booksVoidSpec : ChangeSpec := { name := "booksVoid", fn := fun _ => fun
  | [d] => { results := [.lit (.bool true)], args := [d] }
  | _ => none }
def booksVoidRow : OpenClaim := { program := "ytacglcpjbepfnaa", sum := "514f0483f83fb666785d4596a7a2a555513df435c0ec6fc5a5b40fff446cee14", func := "countinghouse/countinghouselaw04.BooksVoid", spec := "booksVoid", unfollowed := true, recurses := true, plainKeys := false, apart := false }
def BooksVoidSaid : Prop := booksVoidRow.holds Try.pinned (OpenSpec.ofChange booksVoidSpec)

/-- ITS FALSE NEIGHBOUR: 'it returns false'. Refute it at one input. -/
def booksVoidWrong : ChangeSpec := { name := "booksVoid", fn := fun _ => fun
  | [d] => { results := [.lit (.bool false)], args := [d] }
  | _ => none }
def BooksVoidWrongFalsely : Prop := booksVoidRow.holds Try.pinned (OpenSpec.ofChange booksVoidWrong)

/-- 'countinghouselaw04.BooksOf': WHATEVER THE INPUT: true; the input reads as it did. -/
def booksOfSpec : ChangeSpec := { name := "booksOf", fn := fun _ => fun
  | [d1, d2] => { results := [.lit (.bool true)], args := [d1, d2] }
  | _ => none }
def booksOfRow : OpenClaim := { program := "ytacglcpjbepfnaa", sum := "514f0483f83fb666785d4596a7a2a555513df435c0ec6fc5a5b40fff446cee14", func := "countinghouse/countinghouselaw04.BooksOf", spec := "booksOf", unfollowed := true, recurses := true, plainKeys := false, apart := false }
def BooksOfSaid : Prop := booksOfRow.holds Try.pinned (OpenSpec.ofChange booksOfSpec)

/-- ITS FALSE NEIGHBOUR: 'it returns false'. Refute it at one input. -/
def booksOfWrong : ChangeSpec := { name := "booksOf", fn := fun _ => fun
  | [d1, d2] => { results := [.lit (.bool false)], args := [d1, d2] }
  | _ => none }
def BooksOfWrongFalsely : Prop := booksOfRow.holds Try.pinned (OpenSpec.ofChange booksOfWrong)

/-- 'countinghouselaw04.BooksTold': WHATEVER THE INPUT: true; the input reads as it did. -/
def booksToldSpec : ChangeSpec := { name := "booksTold", fn := fun _ => fun
  | [d1, d2] => { results := [.lit (.bool true)], args := [d1, d2] }
  | _ => none }
def booksToldRow : OpenClaim := { program := "ytacglcpjbepfnaa", sum := "514f0483f83fb666785d4596a7a2a555513df435c0ec6fc5a5b40fff446cee14", func := "countinghouse/countinghouselaw04.BooksTold", spec := "booksTold", unfollowed := true, recurses := true, plainKeys := false, apart := false }
def BooksToldSaid : Prop := booksToldRow.holds Try.pinned (OpenSpec.ofChange booksToldSpec)

/-- ITS FALSE NEIGHBOUR: 'it returns false'. Refute it at one input. -/
def booksToldWrong : ChangeSpec := { name := "booksTold", fn := fun _ => fun
  | [d1, d2] => { results := [.lit (.bool false)], args := [d1, d2] }
  | _ => none }
def BooksToldWrongFalsely : Prop := booksToldRow.holds Try.pinned (OpenSpec.ofChange booksToldWrong)

/-- 'countinghouselaw04.BooksPlay': WHATEVER THE INPUT: true; the input reads as it did. -/
def booksPlaySpec : ChangeSpec := { name := "booksPlay", fn := fun _ => fun
  | [d1, d2] => { results := [.lit (.bool true)], args := [d1, d2] }
  | _ => none }
def booksPlayRow : OpenClaim := { program := "ytacglcpjbepfnaa", sum := "514f0483f83fb666785d4596a7a2a555513df435c0ec6fc5a5b40fff446cee14", func := "countinghouse/countinghouselaw04.BooksPlay", spec := "booksPlay", unfollowed := true, recurses := true, plainKeys := false, apart := false }
def BooksPlaySaid : Prop := booksPlayRow.holds Try.pinned (OpenSpec.ofChange booksPlaySpec)

/-- ITS FALSE NEIGHBOUR: 'it returns false'. Refute it at one input. -/
def booksPlayWrong : ChangeSpec := { name := "booksPlay", fn := fun _ => fun
  | [d1, d2] => { results := [.lit (.bool false)], args := [d1, d2] }
  | _ => none }
def BooksPlayWrongFalsely : Prop := booksPlayRow.holds Try.pinned (OpenSpec.ofChange booksPlayWrong)

/- THE SECOND FORM. 'bulk': how many values and letters a reading holds, each counted each time it is reached (what is shared counts as often as it is met; a slice's spare places count too). A statement '..UptoSaid' is the law's where the arguments, and the package variables that the reading takes, are together of bulk at most 1048576: NARROWER than '..Said'. Prove '..Said' where nothing that the law and all that it calls make is longer than what came in: it says more and counts as full. Else prove '..UptoSaid'. A law counts once. -/
mutual
def uptoBulk {H : Type} : DataW H → Nat
  | .lit (.string bytes) => bytes.length + 1
  | .lit _ => 1
  | .nil => 1
  | .ptr d => uptoBulk d + 1
  | .slice elems spare => uptoBulkAll elems + uptoBulkAll spare + 1
  | .agg parts => uptoBulkAll parts + 1
  | .iface _ d => uptoBulk d + 1
  | .map entries => uptoBulkEntries entries + 1
  | .held _ => 1
def uptoBulkAll {H : Type} : List (DataW H) → Nat
  | [] => 0
  | d :: r => uptoBulk d + uptoBulkAll r
def uptoBulkEntries {H : Type} : List (Lit × DataW H) → Nat
  | [] => 0
  | x :: r => uptoBulkEntry x + uptoBulkEntries r
def uptoBulkEntry {H : Type} : Lit × DataW H → Nat
  | (.string bytes, d) => bytes.length + uptoBulk d + 1
  | (_, d) => uptoBulk d + 1
 end
def uptoSmall : (H : Type) → List (DataW H) → Bool := fun _ ds => decide (uptoBulkAll ds ≤ 1048576)
def OpenSpec.upto (s : _root_.Go.ChangeSpec) : _root_.Go.OpenSpec := { _root_.Go.OpenSpec.ofChange s with cond := some uptoSmall }

/-- 'countinghouselaw03.LedgersPush', WHERE WHAT IT READS IS OF BULK AT MOST 1048576: true; the input reads as it did. -/
def ledgersPushUptoRow : OpenClaim := { program := "ytacglcpjbepfnaa", sum := "514f0483f83fb666785d4596a7a2a555513df435c0ec6fc5a5b40fff446cee14", func := "countinghouse/countinghouselaw03.LedgersPush", spec := "ledgersPush", inPlace := ["maps.clone"], unfollowed := true, recurses := true, plainKeys := false, apart := false, narrowed := true }
def LedgersPushUptoSaid : Prop := ledgersPushUptoRow.holds Try.pinned (OpenSpec.upto ledgersPushSpec)

/-- 'countinghouselaw03.LedgersBack', WHERE WHAT IT READS IS OF BULK AT MOST 1048576: true; the input reads as it did. -/
def ledgersBackUptoRow : OpenClaim := { program := "ytacglcpjbepfnaa", sum := "514f0483f83fb666785d4596a7a2a555513df435c0ec6fc5a5b40fff446cee14", func := "countinghouse/countinghouselaw03.LedgersBack", spec := "ledgersBack", inPlace := ["maps.clone"], unfollowed := true, recurses := true, plainKeys := false, apart := false, narrowed := true }
def LedgersBackUptoSaid : Prop := ledgersBackUptoRow.holds Try.pinned (OpenSpec.upto ledgersBackSpec)

/-- 'countinghouselaw03.LedgersOf', WHERE WHAT IT READS IS OF BULK AT MOST 1048576: true; the input reads as it did. -/
def ledgersOfUptoRow : OpenClaim := { program := "ytacglcpjbepfnaa", sum := "514f0483f83fb666785d4596a7a2a555513df435c0ec6fc5a5b40fff446cee14", func := "countinghouse/countinghouselaw03.LedgersOf", spec := "ledgersOf", unfollowed := true, recurses := true, plainKeys := false, apart := false, narrowed := true }
def LedgersOfUptoSaid : Prop := ledgersOfUptoRow.holds Try.pinned (OpenSpec.upto ledgersOfSpec)

/-- 'countinghouselaw03.LedgersPlay', WHERE WHAT IT READS IS OF BULK AT MOST 1048576: true; the input reads as it did. -/
def ledgersPlayUptoRow : OpenClaim := { program := "ytacglcpjbepfnaa", sum := "514f0483f83fb666785d4596a7a2a555513df435c0ec6fc5a5b40fff446cee14", func := "countinghouse/countinghouselaw03.LedgersPlay", spec := "ledgersPlay", inPlace := ["maps.clone"], unfollowed := true, recurses := true, plainKeys := false, apart := false, narrowed := true }
def LedgersPlayUptoSaid : Prop := ledgersPlayUptoRow.holds Try.pinned (OpenSpec.upto ledgersPlaySpec)

/-- 'countinghouselaw03.LedgersVoid', WHERE WHAT IT READS IS OF BULK AT MOST 1048576: true; the input reads as it did. -/
def ledgersVoidUptoRow : OpenClaim := { program := "ytacglcpjbepfnaa", sum := "514f0483f83fb666785d4596a7a2a555513df435c0ec6fc5a5b40fff446cee14", func := "countinghouse/countinghouselaw03.LedgersVoid", spec := "ledgersVoid", inPlace := ["maps.clone"], unfollowed := true, recurses := true, plainKeys := false, apart := false, narrowed := true }
def LedgersVoidUptoSaid : Prop := ledgersVoidUptoRow.holds Try.pinned (OpenSpec.upto ledgersVoidSpec)

/-- 'countinghouselaw03.LedgersTold', WHERE WHAT IT READS IS OF BULK AT MOST 1048576: true; the input reads as it did. -/
def ledgersToldUptoRow : OpenClaim := { program := "ytacglcpjbepfnaa", sum := "514f0483f83fb666785d4596a7a2a555513df435c0ec6fc5a5b40fff446cee14", func := "countinghouse/countinghouselaw03.LedgersTold", spec := "ledgersTold", unfollowed := true, recurses := true, plainKeys := false, apart := false, narrowed := true }
def LedgersToldUptoSaid : Prop := ledgersToldUptoRow.holds Try.pinned (OpenSpec.upto ledgersToldSpec)

/-- 'countinghouselaw04.BooksBest', WHERE WHAT IT READS IS OF BULK AT MOST 1048576: true; the input reads as it did. -/
def booksBestUptoRow : OpenClaim := { program := "ytacglcpjbepfnaa", sum := "514f0483f83fb666785d4596a7a2a555513df435c0ec6fc5a5b40fff446cee14", func := "countinghouse/countinghouselaw04.BooksBest", spec := "booksBest", unfollowed := true, recurses := true, plainKeys := false, apart := false, narrowed := true }
def BooksBestUptoSaid : Prop := booksBestUptoRow.holds Try.pinned (OpenSpec.upto booksBestSpec)

/-- 'countinghouselaw04.BooksOnce', WHERE WHAT IT READS IS OF BULK AT MOST 1048576: true; the input reads as it did. -/
def booksOnceUptoRow : OpenClaim := { program := "ytacglcpjbepfnaa", sum := "514f0483f83fb666785d4596a7a2a555513df435c0ec6fc5a5b40fff446cee14", func := "countinghouse/countinghouselaw04.BooksOnce", spec := "booksOnce", unfollowed := true, recurses := true, plainKeys := false, apart := false, narrowed := true }
def BooksOnceUptoSaid : Prop := booksOnceUptoRow.holds Try.pinned (OpenSpec.upto booksOnceSpec)

/-- 'countinghouselaw04.BooksVoid', WHERE WHAT IT READS IS OF BULK AT MOST 1048576: true; the input reads as it did. -/
def booksVoidUptoRow : OpenClaim := { program := "ytacglcpjbepfnaa", sum := "514f0483f83fb666785d4596a7a2a555513df435c0ec6fc5a5b40fff446cee14", func := "countinghouse/countinghouselaw04.BooksVoid", spec := "booksVoid", unfollowed := true, recurses := true, plainKeys := false, apart := false, narrowed := true }
def BooksVoidUptoSaid : Prop := booksVoidUptoRow.holds Try.pinned (OpenSpec.upto booksVoidSpec)

/-- 'countinghouselaw04.BooksOf', WHERE WHAT IT READS IS OF BULK AT MOST 1048576: true; the input reads as it did. -/
def booksOfUptoRow : OpenClaim := { program := "ytacglcpjbepfnaa", sum := "514f0483f83fb666785d4596a7a2a555513df435c0ec6fc5a5b40fff446cee14", func := "countinghouse/countinghouselaw04.BooksOf", spec := "booksOf", unfollowed := true, recurses := true, plainKeys := false, apart := false, narrowed := true }
def BooksOfUptoSaid : Prop := booksOfUptoRow.holds Try.pinned (OpenSpec.upto booksOfSpec)

/-- 'countinghouselaw04.BooksTold', WHERE WHAT IT READS IS OF BULK AT MOST 1048576: true; the input reads as it did. -/
def booksToldUptoRow : OpenClaim := { program := "ytacglcpjbepfnaa", sum := "514f0483f83fb666785d4596a7a2a555513df435c0ec6fc5a5b40fff446cee14", func := "countinghouse/countinghouselaw04.BooksTold", spec := "booksTold", unfollowed := true, recurses := true, plainKeys := false, apart := false, narrowed := true }
def BooksToldUptoSaid : Prop := booksToldUptoRow.holds Try.pinned (OpenSpec.upto booksToldSpec)

/-- 'countinghouselaw04.BooksPlay', WHERE WHAT IT READS IS OF BULK AT MOST 1048576: true; the input reads as it did. -/
def booksPlayUptoRow : OpenClaim := { program := "ytacglcpjbepfnaa", sum := "514f0483f83fb666785d4596a7a2a555513df435c0ec6fc5a5b40fff446cee14", func := "countinghouse/countinghouselaw04.BooksPlay", spec := "booksPlay", unfollowed := true, recurses := true, plainKeys := false, apart := false, narrowed := true }
def BooksPlayUptoSaid : Prop := booksPlayUptoRow.holds Try.pinned (OpenSpec.upto booksPlaySpec)

end Rows
end Go.Proofs.Ytacglcpjbepfnaa
