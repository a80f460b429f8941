/-
  DERIVED. GIVEN WITH THE SEED: THE CARDS: each row of YtbkacbbhiecnkaaDoorRows.lean that lists a variable, with what it lists TIED to the program's text (the seventh form; the later family's looks); each row that meets fmt, with fmt's text TOLD by the authors' own Lean function (tested against real Go, not proved from fmt's source: count such statements apart). THE CARD IS WHAT COUNTS. Prove the row's statement (the work); the ties are given (YtbkacbbhiecnkaaDoorTie.lean); close each card by the builder's one call (the guide's Derived/Test/ToyasCard.lean, 'card_holds'). Laid BY PROGRAM, IN A SANDBOX (cutbox-door.mjs). By AI agents, Wed Nov 11 2026. No macro, syntax, notation, axiom, sorry.
-/
import Derived.Test.YtbkacbbhiecnkaaDoorRows
import GoSem.ClaimSeven
namespace Go.Proofs.YtbkacbbhiecnkaaDoor
namespace Rows

/-- THE TIED CARD OF 'cohesionlaw32.PatternsCopies'. -/
def patternsCopiesCard : Claim7 := { stood := { row := patternsCopiesRow, standIns := [], harness := (true, "8e065bd676879fb1e35b4134dc7dc50ee17c7bdb91d1e3a443c7cb4d5acc87c6"), looks := false }, kinds := [], alts := [], laidByText := true, laidKinds := [.widerDeep, .data, .data], laidTests := true, laidLooks := .later }
def PatternsCopiesCardSaid : Prop := Claim7.holds Tryd.pinned (.plain (OpenSpec.ofChange patternsCopiesSpec)) patternsCopiesCard

/-- THE TIED CARD OF 'cohesionlaw32.PatternsNames'. -/
def patternsNamesCard : Claim7 := { stood := { row := patternsNamesRow, standIns := [], harness := (true, "8e065bd676879fb1e35b4134dc7dc50ee17c7bdb91d1e3a443c7cb4d5acc87c6"), looks := false }, kinds := [], alts := [], laidByText := true, laidKinds := [.widerDeep, .data, .data], laidTests := true, laidLooks := .later }
def PatternsNamesCardSaid : Prop := Claim7.holds Tryd.pinned (.plain (OpenSpec.ofChange patternsNamesSpec)) patternsNamesCard

/-- THE TIED CARD OF 'cohesionlaw30.SquaresSides'. -/
def squaresSidesCard : Claim7 := { stood := { row := squaresSidesRow, standIns := [], harness := (true, "8e065bd676879fb1e35b4134dc7dc50ee17c7bdb91d1e3a443c7cb4d5acc87c6"), looks := false }, kinds := [], alts := [], laidByText := true, laidKinds := [.data], laidTests := true, laidLooks := .later }
def SquaresSidesCardSaid : Prop := Claim7.holds Tryd.pinned (.plain (OpenSpec.ofChange squaresSidesSpec)) squaresSidesCard

/-- THE TIED CARD OF 'cohesionlaw32.PatternsAnswers'. -/
def patternsAnswersCard : Claim7 := { stood := { row := patternsAnswersRow, standIns := [], harness := (true, "8e065bd676879fb1e35b4134dc7dc50ee17c7bdb91d1e3a443c7cb4d5acc87c6"), looks := false }, kinds := [], alts := [], laidByText := true, laidKinds := [.widerDeep, .data, .data], laidTests := true, laidLooks := .later }
def PatternsAnswersCardSaid : Prop := Claim7.holds Tryd.pinned (.plain (OpenSpec.ofChange patternsAnswersSpec)) patternsAnswersCard

/-- THE TIED CARD OF 'cohesionlaw12.TrussChecks'. -/
def trussChecksCard : Claim7 := { stood := { row := trussChecksRow, standIns := [], harness := (true, "8e065bd676879fb1e35b4134dc7dc50ee17c7bdb91d1e3a443c7cb4d5acc87c6"), looks := false }, kinds := [], alts := [], laidByText := true, laidKinds := [.data], laidTests := true, laidLooks := .later }
def TrussChecksCardSaid : Prop := Claim7.holds Tryd.pinned (.plain (OpenSpec.ofChange trussChecksSpec)) trussChecksCard

/-- THE TIED CARD OF 'cohesionlaw12.TrussProves'. -/
def trussProvesCard : Claim7 := { stood := { row := trussProvesRow, standIns := [], harness := (true, "8e065bd676879fb1e35b4134dc7dc50ee17c7bdb91d1e3a443c7cb4d5acc87c6"), looks := false }, kinds := [], alts := [], laidByText := true, laidKinds := [.data], laidTests := true, laidLooks := .later }
def TrussProvesCardSaid : Prop := Claim7.holds Tryd.pinned (.plain (OpenSpec.ofChange trussProvesSpec)) trussProvesCard

/-- THE TIED CARD OF 'cohesionlaw12.TrussCores'. -/
def trussCoresCard : Claim7 := { stood := { row := trussCoresRow, standIns := [], harness := (true, "8e065bd676879fb1e35b4134dc7dc50ee17c7bdb91d1e3a443c7cb4d5acc87c6"), looks := false }, kinds := [], alts := [], laidByText := true, laidKinds := [.data], laidTests := true, laidLooks := .later }
def TrussCoresCardSaid : Prop := Claim7.holds Tryd.pinned (.plain (OpenSpec.ofChange trussCoresSpec)) trussCoresCard

/-- THE TIED CARD OF 'cohesionlaw12.TrussNumbers'. -/
def trussNumbersCard : Claim7 := { stood := { row := trussNumbersRow, standIns := [], harness := (true, "8e065bd676879fb1e35b4134dc7dc50ee17c7bdb91d1e3a443c7cb4d5acc87c6"), looks := false }, kinds := [], alts := [], laidByText := true, laidKinds := [.data], laidTests := true, laidLooks := .later }
def TrussNumbersCardSaid : Prop := Claim7.holds Tryd.pinned (.plain (OpenSpec.ofChange trussNumbersSpec)) trussNumbersCard

/-- THE TIED CARD OF 'cohesionlaw12.TrussSelf'. -/
def trussSelfCard : Claim7 := { stood := { row := trussSelfRow, standIns := [], harness := (true, "8e065bd676879fb1e35b4134dc7dc50ee17c7bdb91d1e3a443c7cb4d5acc87c6"), looks := false }, kinds := [], alts := [], laidByText := true, laidKinds := [.data], laidTests := true, laidLooks := .later }
def TrussSelfCardSaid : Prop := Claim7.holds Tryd.pinned (.plain (OpenSpec.ofChange trussSelfSpec)) trussSelfCard

/-- THE TIED CARD OF 'cohesionlaw30.SquaresSums'. -/
def squaresSumsCard : Claim7 := { stood := { row := squaresSumsRow, standIns := [], harness := (true, "8e065bd676879fb1e35b4134dc7dc50ee17c7bdb91d1e3a443c7cb4d5acc87c6"), looks := false }, kinds := [], alts := [], laidByText := true, laidKinds := [.data], laidTests := true, laidLooks := .later }
def SquaresSumsCardSaid : Prop := Claim7.holds Tryd.pinned (.plain (OpenSpec.ofChange squaresSumsSpec)) squaresSumsCard

/-- THE TIED CARD OF 'cohesionlaw30.SquaresKept'. -/
def squaresKeptCard : Claim7 := { stood := { row := squaresKeptRow, standIns := [], harness := (true, "8e065bd676879fb1e35b4134dc7dc50ee17c7bdb91d1e3a443c7cb4d5acc87c6"), looks := false }, kinds := [], alts := [], laidByText := true, laidKinds := [.data], laidTests := true, laidLooks := .later }
def SquaresKeptCardSaid : Prop := Claim7.holds Tryd.pinned (.plain (OpenSpec.ofChange squaresKeptSpec)) squaresKeptCard

/-- THE TIED CARD OF 'cohesionlaw30.SquaresAnswers'. -/
def squaresAnswersCard : Claim7 := { stood := { row := squaresAnswersRow, standIns := [], harness := (true, "8e065bd676879fb1e35b4134dc7dc50ee17c7bdb91d1e3a443c7cb4d5acc87c6"), looks := false }, kinds := [], alts := [], laidByText := true, laidKinds := [.data], laidTests := true, laidLooks := .later }
def SquaresAnswersCardSaid : Prop := Claim7.holds Tryd.pinned (.plain (OpenSpec.ofChange squaresAnswersSpec)) squaresAnswersCard

/-- THE SECOND FORM's CARD OF 'cohesionlaw32.PatternsCopies'. -/
def patternsCopiesUptoCard : Claim7 := { stood := { row := patternsCopiesUptoRow, standIns := [], harness := (true, "8e065bd676879fb1e35b4134dc7dc50ee17c7bdb91d1e3a443c7cb4d5acc87c6"), looks := false }, kinds := [], alts := [], laidByText := true, laidKinds := [.widerDeep, .data, .data], laidTests := true, laidLooks := .later }
def PatternsCopiesUptoCardSaid : Prop := Claim7.holds Tryd.pinned (.plain (OpenSpec.upto patternsCopiesSpec)) patternsCopiesUptoCard

/-- THE SECOND FORM's CARD OF 'cohesionlaw32.PatternsNames'. -/
def patternsNamesUptoCard : Claim7 := { stood := { row := patternsNamesUptoRow, standIns := [], harness := (true, "8e065bd676879fb1e35b4134dc7dc50ee17c7bdb91d1e3a443c7cb4d5acc87c6"), looks := false }, kinds := [], alts := [], laidByText := true, laidKinds := [.widerDeep, .data, .data], laidTests := true, laidLooks := .later }
def PatternsNamesUptoCardSaid : Prop := Claim7.holds Tryd.pinned (.plain (OpenSpec.upto patternsNamesSpec)) patternsNamesUptoCard

/-- THE SECOND FORM's CARD OF 'cohesionlaw30.SquaresSides'. -/
def squaresSidesUptoCard : Claim7 := { stood := { row := squaresSidesUptoRow, standIns := [], harness := (true, "8e065bd676879fb1e35b4134dc7dc50ee17c7bdb91d1e3a443c7cb4d5acc87c6"), looks := false }, kinds := [], alts := [], laidByText := true, laidKinds := [.data], laidTests := true, laidLooks := .later }
def SquaresSidesUptoCardSaid : Prop := Claim7.holds Tryd.pinned (.plain (OpenSpec.upto squaresSidesSpec)) squaresSidesUptoCard

/-- THE SECOND FORM's CARD OF 'cohesionlaw32.PatternsAnswers'. -/
def patternsAnswersUptoCard : Claim7 := { stood := { row := patternsAnswersUptoRow, standIns := [], harness := (true, "8e065bd676879fb1e35b4134dc7dc50ee17c7bdb91d1e3a443c7cb4d5acc87c6"), looks := false }, kinds := [], alts := [], laidByText := true, laidKinds := [.widerDeep, .data, .data], laidTests := true, laidLooks := .later }
def PatternsAnswersUptoCardSaid : Prop := Claim7.holds Tryd.pinned (.plain (OpenSpec.upto patternsAnswersSpec)) patternsAnswersUptoCard

/-- THE SECOND FORM's CARD OF 'cohesionlaw12.TrussChecks'. -/
def trussChecksUptoCard : Claim7 := { stood := { row := trussChecksUptoRow, standIns := [], harness := (true, "8e065bd676879fb1e35b4134dc7dc50ee17c7bdb91d1e3a443c7cb4d5acc87c6"), looks := false }, kinds := [], alts := [], laidByText := true, laidKinds := [.data], laidTests := true, laidLooks := .later }
def TrussChecksUptoCardSaid : Prop := Claim7.holds Tryd.pinned (.plain (OpenSpec.upto trussChecksSpec)) trussChecksUptoCard

/-- THE SECOND FORM's CARD OF 'cohesionlaw12.TrussProves'. -/
def trussProvesUptoCard : Claim7 := { stood := { row := trussProvesUptoRow, standIns := [], harness := (true, "8e065bd676879fb1e35b4134dc7dc50ee17c7bdb91d1e3a443c7cb4d5acc87c6"), looks := false }, kinds := [], alts := [], laidByText := true, laidKinds := [.data], laidTests := true, laidLooks := .later }
def TrussProvesUptoCardSaid : Prop := Claim7.holds Tryd.pinned (.plain (OpenSpec.upto trussProvesSpec)) trussProvesUptoCard

/-- THE SECOND FORM's CARD OF 'cohesionlaw12.TrussCores'. -/
def trussCoresUptoCard : Claim7 := { stood := { row := trussCoresUptoRow, standIns := [], harness := (true, "8e065bd676879fb1e35b4134dc7dc50ee17c7bdb91d1e3a443c7cb4d5acc87c6"), looks := false }, kinds := [], alts := [], laidByText := true, laidKinds := [.data], laidTests := true, laidLooks := .later }
def TrussCoresUptoCardSaid : Prop := Claim7.holds Tryd.pinned (.plain (OpenSpec.upto trussCoresSpec)) trussCoresUptoCard

/-- THE SECOND FORM's CARD OF 'cohesionlaw12.TrussNumbers'. -/
def trussNumbersUptoCard : Claim7 := { stood := { row := trussNumbersUptoRow, standIns := [], harness := (true, "8e065bd676879fb1e35b4134dc7dc50ee17c7bdb91d1e3a443c7cb4d5acc87c6"), looks := false }, kinds := [], alts := [], laidByText := true, laidKinds := [.data], laidTests := true, laidLooks := .later }
def TrussNumbersUptoCardSaid : Prop := Claim7.holds Tryd.pinned (.plain (OpenSpec.upto trussNumbersSpec)) trussNumbersUptoCard

/-- THE SECOND FORM's CARD OF 'cohesionlaw12.TrussSelf'. -/
def trussSelfUptoCard : Claim7 := { stood := { row := trussSelfUptoRow, standIns := [], harness := (true, "8e065bd676879fb1e35b4134dc7dc50ee17c7bdb91d1e3a443c7cb4d5acc87c6"), looks := false }, kinds := [], alts := [], laidByText := true, laidKinds := [.data], laidTests := true, laidLooks := .later }
def TrussSelfUptoCardSaid : Prop := Claim7.holds Tryd.pinned (.plain (OpenSpec.upto trussSelfSpec)) trussSelfUptoCard

/-- THE SECOND FORM's CARD OF 'cohesionlaw30.SquaresSums'. -/
def squaresSumsUptoCard : Claim7 := { stood := { row := squaresSumsUptoRow, standIns := [], harness := (true, "8e065bd676879fb1e35b4134dc7dc50ee17c7bdb91d1e3a443c7cb4d5acc87c6"), looks := false }, kinds := [], alts := [], laidByText := true, laidKinds := [.data], laidTests := true, laidLooks := .later }
def SquaresSumsUptoCardSaid : Prop := Claim7.holds Tryd.pinned (.plain (OpenSpec.upto squaresSumsSpec)) squaresSumsUptoCard

/-- THE SECOND FORM's CARD OF 'cohesionlaw30.SquaresKept'. -/
def squaresKeptUptoCard : Claim7 := { stood := { row := squaresKeptUptoRow, standIns := [], harness := (true, "8e065bd676879fb1e35b4134dc7dc50ee17c7bdb91d1e3a443c7cb4d5acc87c6"), looks := false }, kinds := [], alts := [], laidByText := true, laidKinds := [.data], laidTests := true, laidLooks := .later }
def SquaresKeptUptoCardSaid : Prop := Claim7.holds Tryd.pinned (.plain (OpenSpec.upto squaresKeptSpec)) squaresKeptUptoCard

/-- THE SECOND FORM's CARD OF 'cohesionlaw30.SquaresAnswers'. -/
def squaresAnswersUptoCard : Claim7 := { stood := { row := squaresAnswersUptoRow, standIns := [], harness := (true, "8e065bd676879fb1e35b4134dc7dc50ee17c7bdb91d1e3a443c7cb4d5acc87c6"), looks := false }, kinds := [], alts := [], laidByText := true, laidKinds := [.data], laidTests := true, laidLooks := .later }
def SquaresAnswersUptoCardSaid : Prop := Claim7.holds Tryd.pinned (.plain (OpenSpec.upto squaresAnswersSpec)) squaresAnswersUptoCard
end Rows
end Go.Proofs.YtbkacbbhiecnkaaDoor
