/-
  DERIVED. GIVEN WITH THE SEED: THE CARDS: each row of YtlinhcbjljcgbaaDoorRows.lean that lists a variable, with what it lists TIED to the program's text (the seventh form; the later family's looks); each row that meets fmt, with fmt's text TOLD by the authors' own Lean function (tested against real Go, not proved from fmt's source: count such statements apart). THE CARD IS WHAT COUNTS. Prove the row's statement (the work); the ties are given (YtlinhcbjljcgbaaDoorTie.lean); close each card by the builder's one call (the guide's Derived/Test/ToyasCard.lean, 'card_holds'). Laid BY PROGRAM, IN A SANDBOX (cutbox-door.mjs). By AI agents, Wed Nov 11 2026. No macro, syntax, notation, axiom, sorry.
-/
import Derived.Test.YtlinhcbjljcgbaaDoorRows
import GoSem.ClaimSeven
namespace Go.Proofs.YtlinhcbjljcgbaaDoor
namespace Rows

/-- THE TIED CARD OF 'countinghouselaw15.SumsOf'. -/
def sumsOfCard : Claim7 := { stood := { row := sumsOfRow, standIns := [], harness := (true, "6756ef4a8131a2225c57b9d00afcd022f81c765ed24d71c3f500fc3ca119d305"), looks := false }, kinds := [], alts := [], laidByText := true, laidKinds := [.data], laidTests := true, laidLooks := .later }
def SumsOfCardSaid : Prop := Claim7.holds Tryd.pinned (.plain (OpenSpec.ofChange sumsOfSpec)) sumsOfCard

/-- THE TIED CARD OF 'countinghouselaw15.SumsBurst'. -/
def sumsBurstCard : Claim7 := { stood := { row := sumsBurstRow, standIns := [], harness := (true, "6756ef4a8131a2225c57b9d00afcd022f81c765ed24d71c3f500fc3ca119d305"), looks := false }, kinds := [], alts := [], laidByText := true, laidKinds := [.data], laidTests := true, laidLooks := .later }
def SumsBurstCardSaid : Prop := Claim7.holds Tryd.pinned (.plain (OpenSpec.ofChange sumsBurstSpec)) sumsBurstCard

/-- THE TIED CARD OF 'countinghouselaw15.SumsParts'. -/
def sumsPartsCard : Claim7 := { stood := { row := sumsPartsRow, standIns := [], harness := (true, "6756ef4a8131a2225c57b9d00afcd022f81c765ed24d71c3f500fc3ca119d305"), looks := false }, kinds := [], alts := [], laidByText := true, laidKinds := [.data], laidTests := true, laidLooks := .later }
def SumsPartsCardSaid : Prop := Claim7.holds Tryd.pinned (.plain (OpenSpec.ofChange sumsPartsSpec)) sumsPartsCard

/-- THE TIED CARD OF 'countinghouselaw18.FramesPut'. -/
def framesPutCard : Claim7 := { stood := { row := framesPutRow, standIns := [], harness := (true, "6756ef4a8131a2225c57b9d00afcd022f81c765ed24d71c3f500fc3ca119d305"), looks := false }, kinds := [], alts := [], laidByText := true, laidKinds := [.data], laidTests := true, laidLooks := .later }
def FramesPutCardSaid : Prop := Claim7.holds Tryd.pinned (.plain (OpenSpec.ofChange framesPutSpec)) framesPutCard

/-- THE TIED CARD OF 'countinghouselaw18.FramesGet'. -/
def framesGetCard : Claim7 := { stood := { row := framesGetRow, standIns := [], harness := (true, "6756ef4a8131a2225c57b9d00afcd022f81c765ed24d71c3f500fc3ca119d305"), looks := false }, kinds := [], alts := [], laidByText := true, laidKinds := [.data], laidTests := true, laidLooks := .later }
def FramesGetCardSaid : Prop := Claim7.holds Tryd.pinned (.plain (OpenSpec.ofChange framesGetSpec)) framesGetCard

/-- THE TIED CARD OF 'countinghouselaw18.FramesCut'. -/
def framesCutCard : Claim7 := { stood := { row := framesCutRow, standIns := [], harness := (true, "6756ef4a8131a2225c57b9d00afcd022f81c765ed24d71c3f500fc3ca119d305"), looks := false }, kinds := [], alts := [], laidByText := true, laidKinds := [.data], laidTests := true, laidLooks := .later }
def FramesCutCardSaid : Prop := Claim7.holds Tryd.pinned (.plain (OpenSpec.ofChange framesCutSpec)) framesCutCard

/-- THE TIED CARD OF 'countinghouselaw18.FramesSpoilt'. -/
def framesSpoiltCard : Claim7 := { stood := { row := framesSpoiltRow, standIns := [], harness := (true, "6756ef4a8131a2225c57b9d00afcd022f81c765ed24d71c3f500fc3ca119d305"), looks := false }, kinds := [], alts := [], laidByText := true, laidKinds := [.data], laidTests := true, laidLooks := .later }
def FramesSpoiltCardSaid : Prop := Claim7.holds Tryd.pinned (.plain (OpenSpec.ofChange framesSpoiltSpec)) framesSpoiltCard

/-- THE SECOND FORM's CARD OF 'countinghouselaw15.SumsOf'. -/
def sumsOfUptoCard : Claim7 := { stood := { row := sumsOfUptoRow, standIns := [], harness := (true, "6756ef4a8131a2225c57b9d00afcd022f81c765ed24d71c3f500fc3ca119d305"), looks := false }, kinds := [], alts := [], laidByText := true, laidKinds := [.data], laidTests := true, laidLooks := .later }
def SumsOfUptoCardSaid : Prop := Claim7.holds Tryd.pinned (.plain (OpenSpec.upto sumsOfSpec)) sumsOfUptoCard

/-- THE SECOND FORM's CARD OF 'countinghouselaw15.SumsBurst'. -/
def sumsBurstUptoCard : Claim7 := { stood := { row := sumsBurstUptoRow, standIns := [], harness := (true, "6756ef4a8131a2225c57b9d00afcd022f81c765ed24d71c3f500fc3ca119d305"), looks := false }, kinds := [], alts := [], laidByText := true, laidKinds := [.data], laidTests := true, laidLooks := .later }
def SumsBurstUptoCardSaid : Prop := Claim7.holds Tryd.pinned (.plain (OpenSpec.upto sumsBurstSpec)) sumsBurstUptoCard

/-- THE SECOND FORM's CARD OF 'countinghouselaw15.SumsParts'. -/
def sumsPartsUptoCard : Claim7 := { stood := { row := sumsPartsUptoRow, standIns := [], harness := (true, "6756ef4a8131a2225c57b9d00afcd022f81c765ed24d71c3f500fc3ca119d305"), looks := false }, kinds := [], alts := [], laidByText := true, laidKinds := [.data], laidTests := true, laidLooks := .later }
def SumsPartsUptoCardSaid : Prop := Claim7.holds Tryd.pinned (.plain (OpenSpec.upto sumsPartsSpec)) sumsPartsUptoCard

/-- THE SECOND FORM's CARD OF 'countinghouselaw18.FramesPut'. -/
def framesPutUptoCard : Claim7 := { stood := { row := framesPutUptoRow, standIns := [], harness := (true, "6756ef4a8131a2225c57b9d00afcd022f81c765ed24d71c3f500fc3ca119d305"), looks := false }, kinds := [], alts := [], laidByText := true, laidKinds := [.data], laidTests := true, laidLooks := .later }
def FramesPutUptoCardSaid : Prop := Claim7.holds Tryd.pinned (.plain (OpenSpec.upto framesPutSpec)) framesPutUptoCard

/-- THE SECOND FORM's CARD OF 'countinghouselaw18.FramesGet'. -/
def framesGetUptoCard : Claim7 := { stood := { row := framesGetUptoRow, standIns := [], harness := (true, "6756ef4a8131a2225c57b9d00afcd022f81c765ed24d71c3f500fc3ca119d305"), looks := false }, kinds := [], alts := [], laidByText := true, laidKinds := [.data], laidTests := true, laidLooks := .later }
def FramesGetUptoCardSaid : Prop := Claim7.holds Tryd.pinned (.plain (OpenSpec.upto framesGetSpec)) framesGetUptoCard

/-- THE SECOND FORM's CARD OF 'countinghouselaw18.FramesCut'. -/
def framesCutUptoCard : Claim7 := { stood := { row := framesCutUptoRow, standIns := [], harness := (true, "6756ef4a8131a2225c57b9d00afcd022f81c765ed24d71c3f500fc3ca119d305"), looks := false }, kinds := [], alts := [], laidByText := true, laidKinds := [.data], laidTests := true, laidLooks := .later }
def FramesCutUptoCardSaid : Prop := Claim7.holds Tryd.pinned (.plain (OpenSpec.upto framesCutSpec)) framesCutUptoCard

/-- THE SECOND FORM's CARD OF 'countinghouselaw18.FramesSpoilt'. -/
def framesSpoiltUptoCard : Claim7 := { stood := { row := framesSpoiltUptoRow, standIns := [], harness := (true, "6756ef4a8131a2225c57b9d00afcd022f81c765ed24d71c3f500fc3ca119d305"), looks := false }, kinds := [], alts := [], laidByText := true, laidKinds := [.data], laidTests := true, laidLooks := .later }
def FramesSpoiltUptoCardSaid : Prop := Claim7.holds Tryd.pinned (.plain (OpenSpec.upto framesSpoiltSpec)) framesSpoiltUptoCard
end Rows
end Go.Proofs.YtlinhcbjljcgbaaDoor
