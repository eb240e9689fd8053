/-
  DERIVED. GIVEN WITH THE SEED: THE CARDS: each row of YthjpjekaiflibaaDoorRows.lean that lists a variable, with what it lists TIED to the program's text (the seventh form; the later family's looks); each row that meets fmt, with fmt's text TOLD by the authors' own Lean function (tested against real Go, not proved from fmt's source: count such statements apart). THE CARD IS WHAT COUNTS. Prove the row's statement (the work); the ties are given (YthjpjekaiflibaaDoorTie.lean); close each card by the builder's one call (the guide's Derived/Test/ToyasCard.lean, 'card_holds'). Laid BY PROGRAM, IN A SANDBOX (cutbox-door.mjs). By AI agents, Wed Nov 11 2026. No macro, syntax, notation, axiom, sorry.
-/
import Derived.Test.YthjpjekaiflibaaDoorRows
import GoSem.ClaimSeven
namespace Go.Proofs.YthjpjekaiflibaaDoor
namespace Rows

/-- THE TIED CARD OF 'countinghouselaw20.StatesVoid'. -/
def statesVoidCard : Claim7 := { stood := { row := statesVoidRow, standIns := [], harness := (true, "4dce4fb6df8b83e1052dbefd33fee9cc7902730a9dbc7d58734b52235e134e4b"), looks := true }, kinds := [], alts := [], laidByText := true, laidKinds := [.data], laidTests := true, laidLooks := .later }
def StatesVoidCardSaid : Prop := Claim7.holds Tryd.pinned (.plain (OpenSpec.ofChange statesVoidSpec)) statesVoidCard

/-- THE TIED CARD OF 'countinghouselaw21.ShotsVoid'. -/
def shotsVoidCard : Claim7 := { stood := { row := shotsVoidRow, standIns := [], harness := (true, "4dce4fb6df8b83e1052dbefd33fee9cc7902730a9dbc7d58734b52235e134e4b"), looks := true }, kinds := [], alts := [], laidByText := true, laidKinds := [.data], laidTests := true, laidLooks := .later }
def ShotsVoidCardSaid : Prop := Claim7.holds Tryd.pinned (.plain (OpenSpec.ofChange shotsVoidSpec)) shotsVoidCard

/-- THE TIED CARD OF 'countinghouselaw19.LogsOpened'. -/
def logsOpenedCard : Claim7 := { stood := { row := logsOpenedRow, standIns := [], harness := (true, "4dce4fb6df8b83e1052dbefd33fee9cc7902730a9dbc7d58734b52235e134e4b"), looks := true }, kinds := [], alts := [], laidByText := true, laidKinds := [.data], laidTests := true, laidLooks := .later }
def LogsOpenedCardSaid : Prop := Claim7.holds Tryd.pinned (.plain (OpenSpec.ofChange logsOpenedSpec)) logsOpenedCard

/-- THE TIED CARD OF 'countinghouselaw19.LogsVoid'. -/
def logsVoidCard : Claim7 := { stood := { row := logsVoidRow, standIns := [], harness := (true, "4dce4fb6df8b83e1052dbefd33fee9cc7902730a9dbc7d58734b52235e134e4b"), looks := true }, kinds := [], alts := [], laidByText := true, laidKinds := [.data], laidTests := true, laidLooks := .later }
def LogsVoidCardSaid : Prop := Claim7.holds Tryd.pinned (.plain (OpenSpec.ofChange logsVoidSpec)) logsVoidCard

/-- THE TIED CARD OF 'countinghouselaw20.StatesOne'. -/
def statesOneCard : Claim7 := { stood := { row := statesOneRow, standIns := [], harness := (true, "4dce4fb6df8b83e1052dbefd33fee9cc7902730a9dbc7d58734b52235e134e4b"), looks := true }, kinds := [], alts := [], laidByText := true, laidKinds := [.data], laidTests := true, laidLooks := .later }
def StatesOneCardSaid : Prop := Claim7.holds Tryd.pinned (.plain (OpenSpec.ofChange statesOneSpec)) statesOneCard

/-- THE TIED CARD OF 'countinghouselaw20.StatesPlay'. -/
def statesPlayCard : Claim7 := { stood := { row := statesPlayRow, standIns := [], harness := (true, "4dce4fb6df8b83e1052dbefd33fee9cc7902730a9dbc7d58734b52235e134e4b"), looks := true }, kinds := [], alts := [], laidByText := true, laidKinds := [.data], laidTests := true, laidLooks := .later }
def StatesPlayCardSaid : Prop := Claim7.holds Tryd.pinned (.plain (OpenSpec.ofChange statesPlaySpec)) statesPlayCard

/-- THE TIED CARD OF 'countinghouselaw21.ShotsSure'. -/
def shotsSureCard : Claim7 := { stood := { row := shotsSureRow, standIns := [], harness := (true, "4dce4fb6df8b83e1052dbefd33fee9cc7902730a9dbc7d58734b52235e134e4b"), looks := true }, kinds := [], alts := [], laidByText := true, laidKinds := [.data], laidTests := true, laidLooks := .later }
def ShotsSureCardSaid : Prop := Claim7.holds Tryd.pinned (.plain (OpenSpec.ofChange shotsSureSpec)) shotsSureCard

/-- THE SECOND FORM's CARD OF 'countinghouselaw20.StatesVoid'. -/
def statesVoidUptoCard : Claim7 := { stood := { row := statesVoidUptoRow, standIns := [], harness := (true, "4dce4fb6df8b83e1052dbefd33fee9cc7902730a9dbc7d58734b52235e134e4b"), looks := true }, kinds := [], alts := [], laidByText := true, laidKinds := [.data], laidTests := true, laidLooks := .later }
def StatesVoidUptoCardSaid : Prop := Claim7.holds Tryd.pinned (.plain (OpenSpec.upto statesVoidSpec)) statesVoidUptoCard

/-- THE SECOND FORM's CARD OF 'countinghouselaw21.ShotsVoid'. -/
def shotsVoidUptoCard : Claim7 := { stood := { row := shotsVoidUptoRow, standIns := [], harness := (true, "4dce4fb6df8b83e1052dbefd33fee9cc7902730a9dbc7d58734b52235e134e4b"), looks := true }, kinds := [], alts := [], laidByText := true, laidKinds := [.data], laidTests := true, laidLooks := .later }
def ShotsVoidUptoCardSaid : Prop := Claim7.holds Tryd.pinned (.plain (OpenSpec.upto shotsVoidSpec)) shotsVoidUptoCard

/-- THE SECOND FORM's CARD OF 'countinghouselaw19.LogsOpened'. -/
def logsOpenedUptoCard : Claim7 := { stood := { row := logsOpenedUptoRow, standIns := [], harness := (true, "4dce4fb6df8b83e1052dbefd33fee9cc7902730a9dbc7d58734b52235e134e4b"), looks := true }, kinds := [], alts := [], laidByText := true, laidKinds := [.data], laidTests := true, laidLooks := .later }
def LogsOpenedUptoCardSaid : Prop := Claim7.holds Tryd.pinned (.plain (OpenSpec.upto logsOpenedSpec)) logsOpenedUptoCard

/-- THE SECOND FORM's CARD OF 'countinghouselaw19.LogsVoid'. -/
def logsVoidUptoCard : Claim7 := { stood := { row := logsVoidUptoRow, standIns := [], harness := (true, "4dce4fb6df8b83e1052dbefd33fee9cc7902730a9dbc7d58734b52235e134e4b"), looks := true }, kinds := [], alts := [], laidByText := true, laidKinds := [.data], laidTests := true, laidLooks := .later }
def LogsVoidUptoCardSaid : Prop := Claim7.holds Tryd.pinned (.plain (OpenSpec.upto logsVoidSpec)) logsVoidUptoCard

/-- THE SECOND FORM's CARD OF 'countinghouselaw20.StatesOne'. -/
def statesOneUptoCard : Claim7 := { stood := { row := statesOneUptoRow, standIns := [], harness := (true, "4dce4fb6df8b83e1052dbefd33fee9cc7902730a9dbc7d58734b52235e134e4b"), looks := true }, kinds := [], alts := [], laidByText := true, laidKinds := [.data], laidTests := true, laidLooks := .later }
def StatesOneUptoCardSaid : Prop := Claim7.holds Tryd.pinned (.plain (OpenSpec.upto statesOneSpec)) statesOneUptoCard

/-- THE SECOND FORM's CARD OF 'countinghouselaw20.StatesPlay'. -/
def statesPlayUptoCard : Claim7 := { stood := { row := statesPlayUptoRow, standIns := [], harness := (true, "4dce4fb6df8b83e1052dbefd33fee9cc7902730a9dbc7d58734b52235e134e4b"), looks := true }, kinds := [], alts := [], laidByText := true, laidKinds := [.data], laidTests := true, laidLooks := .later }
def StatesPlayUptoCardSaid : Prop := Claim7.holds Tryd.pinned (.plain (OpenSpec.upto statesPlaySpec)) statesPlayUptoCard

/-- THE SECOND FORM's CARD OF 'countinghouselaw21.ShotsSure'. -/
def shotsSureUptoCard : Claim7 := { stood := { row := shotsSureUptoRow, standIns := [], harness := (true, "4dce4fb6df8b83e1052dbefd33fee9cc7902730a9dbc7d58734b52235e134e4b"), looks := true }, kinds := [], alts := [], laidByText := true, laidKinds := [.data], laidTests := true, laidLooks := .later }
def ShotsSureUptoCardSaid : Prop := Claim7.holds Tryd.pinned (.plain (OpenSpec.upto shotsSureSpec)) shotsSureUptoCard
end Rows
end Go.Proofs.YthjpjekaiflibaaDoor
