/-
  DERIVED. GIVEN WITH THE SEED: THE CARDS: each row of YtdiackininlmeaaDoorRows.lean that lists a variable, with what it lists TIED to the program's text (the seventh form; the later family's looks); each row that meets fmt, with fmt's text TOLD by the authors' own Lean function (tested against real Go, not proved from fmt's source: count such statements apart). THE CARD IS WHAT COUNTS. Prove the row's statement (the work); the ties are given (YtdiackininlmeaaDoorTie.lean); close each card by the builder's one call (the guide's Derived/Test/ToyasCard.lean, 'card_holds'). Laid BY PROGRAM, IN A SANDBOX (cutbox-door.mjs). By AI agents, Wed Nov 11 2026. No macro, syntax, notation, axiom, sorry.
-/
import Derived.Test.YtdiackininlmeaaDoorRows
import GoSem.ClaimSeven
namespace Go.Proofs.YtdiackininlmeaaDoor
namespace Rows

/-- THE TIED CARD OF 'cohesionlaw32.PatternsCopies'. -/
def patternsCopiesCard : Claim7 := { stood := { row := patternsCopiesRow, standIns := [], harness := (true, "2dbc11960c76506ebba5b30b27310144e7f803cf3714cd36ff1ed1ef9f144b46"), looks := false }, kinds := [], alts := [], laidByText := true, laidKinds := [.widerDeep, .data, .data], laidTests := true, laidLooks := .later }
def PatternsCopiesCardSaid : Prop := Claim7.holds Tryd.pinned (.plain (OpenSpec.ofChange patternsCopiesSpec)) patternsCopiesCard

/-- THE TIED CARD OF 'cohesionlaw32.PatternsTurns'. -/
def patternsTurnsCard : Claim7 := { stood := { row := patternsTurnsRow, standIns := [], harness := (true, "2dbc11960c76506ebba5b30b27310144e7f803cf3714cd36ff1ed1ef9f144b46"), looks := false }, kinds := [], alts := [], laidByText := true, laidKinds := [.widerDeep, .data, .data], laidTests := true, laidLooks := .later }
def PatternsTurnsCardSaid : Prop := Claim7.holds Tryd.pinned (.plain (OpenSpec.ofChange patternsTurnsSpec)) patternsTurnsCard

/-- THE TIED CARD OF 'cohesionlaw32.PatternsNames'. -/
def patternsNamesCard : Claim7 := { stood := { row := patternsNamesRow, standIns := [], harness := (true, "2dbc11960c76506ebba5b30b27310144e7f803cf3714cd36ff1ed1ef9f144b46"), looks := false }, kinds := [], alts := [], laidByText := true, laidKinds := [.widerDeep, .data, .data], laidTests := true, laidLooks := .later }
def PatternsNamesCardSaid : Prop := Claim7.holds Tryd.pinned (.plain (OpenSpec.ofChange patternsNamesSpec)) patternsNamesCard

/-- THE TIED CARD OF 'cohesionlaw30.SquaresSides'. -/
def squaresSidesCard : Claim7 := { stood := { row := squaresSidesRow, standIns := [], harness := (true, "2dbc11960c76506ebba5b30b27310144e7f803cf3714cd36ff1ed1ef9f144b46"), looks := false }, kinds := [], alts := [], laidByText := true, laidKinds := [.data], laidTests := true, laidLooks := .later }
def SquaresSidesCardSaid : Prop := Claim7.holds Tryd.pinned (.plain (OpenSpec.ofChange squaresSidesSpec)) squaresSidesCard

/-- THE TIED CARD OF 'cohesionlaw30.SquaresCycles'. -/
def squaresCyclesCard : Claim7 := { stood := { row := squaresCyclesRow, standIns := [], harness := (true, "2dbc11960c76506ebba5b30b27310144e7f803cf3714cd36ff1ed1ef9f144b46"), looks := false }, kinds := [], alts := [], laidByText := true, laidKinds := [.data], laidTests := true, laidLooks := .later }
def SquaresCyclesCardSaid : Prop := Claim7.holds Tryd.pinned (.plain (OpenSpec.ofChange squaresCyclesSpec)) squaresCyclesCard

/-- THE TIED CARD OF 'cohesionlaw32.PatternsAnswers'. -/
def patternsAnswersCard : Claim7 := { stood := { row := patternsAnswersRow, standIns := [], harness := (true, "2dbc11960c76506ebba5b30b27310144e7f803cf3714cd36ff1ed1ef9f144b46"), looks := false }, kinds := [], alts := [], laidByText := true, laidKinds := [.widerDeep, .data, .data], laidTests := true, laidLooks := .later }
def PatternsAnswersCardSaid : Prop := Claim7.holds Tryd.pinned (.plain (OpenSpec.ofChange patternsAnswersSpec)) patternsAnswersCard

/-- THE TIED CARD OF 'cohesionlaw32.PatternsSolves'. -/
def patternsSolvesCard : Claim7 := { stood := { row := patternsSolvesRow, standIns := [], harness := (true, "2dbc11960c76506ebba5b30b27310144e7f803cf3714cd36ff1ed1ef9f144b46"), looks := false }, kinds := [], alts := [], laidByText := true, laidKinds := [.widerDeep, .data, .data], laidTests := true, laidLooks := .later }
def PatternsSolvesCardSaid : Prop := Claim7.holds Tryd.pinned (.plain (OpenSpec.ofChange patternsSolvesSpec)) patternsSolvesCard

/-- THE SECOND FORM's CARD OF 'cohesionlaw32.PatternsCopies'. -/
def patternsCopiesUptoCard : Claim7 := { stood := { row := patternsCopiesUptoRow, standIns := [], harness := (true, "2dbc11960c76506ebba5b30b27310144e7f803cf3714cd36ff1ed1ef9f144b46"), looks := false }, kinds := [], alts := [], laidByText := true, laidKinds := [.widerDeep, .data, .data], laidTests := true, laidLooks := .later }
def PatternsCopiesUptoCardSaid : Prop := Claim7.holds Tryd.pinned (.plain (OpenSpec.upto patternsCopiesSpec)) patternsCopiesUptoCard

/-- THE SECOND FORM's CARD OF 'cohesionlaw32.PatternsTurns'. -/
def patternsTurnsUptoCard : Claim7 := { stood := { row := patternsTurnsUptoRow, standIns := [], harness := (true, "2dbc11960c76506ebba5b30b27310144e7f803cf3714cd36ff1ed1ef9f144b46"), looks := false }, kinds := [], alts := [], laidByText := true, laidKinds := [.widerDeep, .data, .data], laidTests := true, laidLooks := .later }
def PatternsTurnsUptoCardSaid : Prop := Claim7.holds Tryd.pinned (.plain (OpenSpec.upto patternsTurnsSpec)) patternsTurnsUptoCard

/-- THE SECOND FORM's CARD OF 'cohesionlaw32.PatternsNames'. -/
def patternsNamesUptoCard : Claim7 := { stood := { row := patternsNamesUptoRow, standIns := [], harness := (true, "2dbc11960c76506ebba5b30b27310144e7f803cf3714cd36ff1ed1ef9f144b46"), looks := false }, kinds := [], alts := [], laidByText := true, laidKinds := [.widerDeep, .data, .data], laidTests := true, laidLooks := .later }
def PatternsNamesUptoCardSaid : Prop := Claim7.holds Tryd.pinned (.plain (OpenSpec.upto patternsNamesSpec)) patternsNamesUptoCard

/-- THE SECOND FORM's CARD OF 'cohesionlaw30.SquaresSides'. -/
def squaresSidesUptoCard : Claim7 := { stood := { row := squaresSidesUptoRow, standIns := [], harness := (true, "2dbc11960c76506ebba5b30b27310144e7f803cf3714cd36ff1ed1ef9f144b46"), looks := false }, kinds := [], alts := [], laidByText := true, laidKinds := [.data], laidTests := true, laidLooks := .later }
def SquaresSidesUptoCardSaid : Prop := Claim7.holds Tryd.pinned (.plain (OpenSpec.upto squaresSidesSpec)) squaresSidesUptoCard

/-- THE SECOND FORM's CARD OF 'cohesionlaw30.SquaresCycles'. -/
def squaresCyclesUptoCard : Claim7 := { stood := { row := squaresCyclesUptoRow, standIns := [], harness := (true, "2dbc11960c76506ebba5b30b27310144e7f803cf3714cd36ff1ed1ef9f144b46"), looks := false }, kinds := [], alts := [], laidByText := true, laidKinds := [.data], laidTests := true, laidLooks := .later }
def SquaresCyclesUptoCardSaid : Prop := Claim7.holds Tryd.pinned (.plain (OpenSpec.upto squaresCyclesSpec)) squaresCyclesUptoCard

/-- THE SECOND FORM's CARD OF 'cohesionlaw32.PatternsAnswers'. -/
def patternsAnswersUptoCard : Claim7 := { stood := { row := patternsAnswersUptoRow, standIns := [], harness := (true, "2dbc11960c76506ebba5b30b27310144e7f803cf3714cd36ff1ed1ef9f144b46"), looks := false }, kinds := [], alts := [], laidByText := true, laidKinds := [.widerDeep, .data, .data], laidTests := true, laidLooks := .later }
def PatternsAnswersUptoCardSaid : Prop := Claim7.holds Tryd.pinned (.plain (OpenSpec.upto patternsAnswersSpec)) patternsAnswersUptoCard

/-- THE SECOND FORM's CARD OF 'cohesionlaw32.PatternsSolves'. -/
def patternsSolvesUptoCard : Claim7 := { stood := { row := patternsSolvesUptoRow, standIns := [], harness := (true, "2dbc11960c76506ebba5b30b27310144e7f803cf3714cd36ff1ed1ef9f144b46"), looks := false }, kinds := [], alts := [], laidByText := true, laidKinds := [.widerDeep, .data, .data], laidTests := true, laidLooks := .later }
def PatternsSolvesUptoCardSaid : Prop := Claim7.holds Tryd.pinned (.plain (OpenSpec.upto patternsSolvesSpec)) patternsSolvesUptoCard
end Rows
end Go.Proofs.YtdiackininlmeaaDoor
