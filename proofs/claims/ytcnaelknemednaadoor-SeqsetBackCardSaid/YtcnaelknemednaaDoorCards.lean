/-
  DERIVED. GIVEN WITH THE SEED: THE CARDS: each row of YtcnaelknemednaaDoorRows.lean that lists a variable, with what it lists TIED to the program's text (the seventh form; the later family's looks); each row that meets fmt, with fmt's text TOLD by the authors' own Lean function (tested against real Go, not proved from fmt's source: count such statements apart). THE CARD IS WHAT COUNTS. Prove the row's statement (the work); the ties are given (YtcnaelknemednaaDoorTie.lean); close each card by the builder's one call (the guide's Derived/Test/ToyasCard.lean, 'card_holds'). Laid BY PROGRAM, IN A SANDBOX (cutbox-door.mjs). By AI agents, Wed Nov 11 2026. No macro, syntax, notation, axiom, sorry.
-/
import Derived.Test.YtcnaelknemednaaDoorRows
import GoSem.ClaimSeven
namespace Go.Proofs.YtcnaelknemednaaDoor
namespace Rows

/-- THE TIED CARD OF 'haversacklaw12.SeqsetPrints'. -/
def seqsetPrintsCard : Claim7 := { stood := { row := seqsetPrintsRow, standIns := [], harness := (true, "d3d06213536ffe60d20d2f1bd9065fee0d129552bbc8f30cf5e9861c47faa411"), looks := false }, kinds := [], alts := [], laidByText := true, laidKinds := [.data, .data, .data], laidTests := true, laidLooks := .later }
def SeqsetPrintsCardSaid : Prop := Claim7.holds Tryd.pinned (.plain (OpenSpec.ofChange seqsetPrintsSpec)) seqsetPrintsCard

/-- THE TIED CARD OF 'haversacklaw12.SeqsetBack'. -/
def seqsetBackCard : Claim7 := { stood := { row := seqsetBackRow, standIns := [], harness := (true, "d3d06213536ffe60d20d2f1bd9065fee0d129552bbc8f30cf5e9861c47faa411"), looks := false }, kinds := [], alts := [], laidByText := true, laidKinds := [.data, .data, .data], laidTests := true, laidLooks := .later }
def SeqsetBackCardSaid : Prop := Claim7.holds Tryd.pinned (.plain (OpenSpec.ofChange seqsetBackSpec)) seqsetBackCard

/-- THE SECOND FORM's CARD OF 'haversacklaw12.SeqsetPrints'. -/
def seqsetPrintsUptoCard : Claim7 := { stood := { row := seqsetPrintsUptoRow, standIns := [], harness := (true, "d3d06213536ffe60d20d2f1bd9065fee0d129552bbc8f30cf5e9861c47faa411"), looks := false }, kinds := [], alts := [], laidByText := true, laidKinds := [.data, .data, .data], laidTests := true, laidLooks := .later }
def SeqsetPrintsUptoCardSaid : Prop := Claim7.holds Tryd.pinned (.plain (OpenSpec.upto seqsetPrintsSpec)) seqsetPrintsUptoCard

/-- THE SECOND FORM's CARD OF 'haversacklaw12.SeqsetBack'. -/
def seqsetBackUptoCard : Claim7 := { stood := { row := seqsetBackUptoRow, standIns := [], harness := (true, "d3d06213536ffe60d20d2f1bd9065fee0d129552bbc8f30cf5e9861c47faa411"), looks := false }, kinds := [], alts := [], laidByText := true, laidKinds := [.data, .data, .data], laidTests := true, laidLooks := .later }
def SeqsetBackUptoCardSaid : Prop := Claim7.holds Tryd.pinned (.plain (OpenSpec.upto seqsetBackSpec)) seqsetBackUptoCard
end Rows
end Go.Proofs.YtcnaelknemednaaDoor
