/-
  DERIVED. GIVEN WITH THE SEED: THE CARDS: each row of YtekbpoppajbljaaDoorRows.lean that lists a variable, with what it lists TIED to the program's text (the seventh form; the later family's looks); each row that meets fmt, with fmt's text TOLD by the authors' own Lean function (tested against real Go, not proved from fmt's source: count such statements apart). THE CARD IS WHAT COUNTS. Prove the row's statement (the work); the ties are given (YtekbpoppajbljaaDoorTie.lean); close each card by the builder's one call (the guide's Derived/Test/ToyasCard.lean, 'card_holds'). Laid BY PROGRAM, IN A SANDBOX (cutbox-door.mjs). By AI agents, Wed Nov 11 2026. No macro, syntax, notation, axiom, sorry.
-/
import Derived.Test.YtekbpoppajbljaaDoorRows
import GoSem.ClaimSeven
namespace Go.Proofs.YtekbpoppajbljaaDoor
namespace Rows

/-- THE TIED CARD OF 'cohesionlaw32.PatternsCopies'. -/
def patternsCopiesCard : Claim7 := { stood := { row := patternsCopiesRow, standIns := [], harness := (true, "bcb5e4c1c3bc49a5e857f1f649b4dfb498540c0aed2f92b00a3342df4ae219dd"), looks := false }, kinds := [], alts := [], laidByText := true, laidKinds := [.widerDeep, .data, .data], laidTests := true, laidLooks := .later }
def PatternsCopiesCardSaid : Prop := Claim7.holds Tryd.pinned (.plain (OpenSpec.ofChange patternsCopiesSpec)) patternsCopiesCard

/-- THE TIED CARD OF 'cohesionlaw32.PatternsNames'. -/
def patternsNamesCard : Claim7 := { stood := { row := patternsNamesRow, standIns := [], harness := (true, "bcb5e4c1c3bc49a5e857f1f649b4dfb498540c0aed2f92b00a3342df4ae219dd"), looks := false }, kinds := [], alts := [], laidByText := true, laidKinds := [.widerDeep, .data, .data], laidTests := true, laidLooks := .later }
def PatternsNamesCardSaid : Prop := Claim7.holds Tryd.pinned (.plain (OpenSpec.ofChange patternsNamesSpec)) patternsNamesCard

/-- THE TIED CARD OF 'cohesionlaw30.SquaresSides'. -/
def squaresSidesCard : Claim7 := { stood := { row := squaresSidesRow, standIns := [], harness := (true, "bcb5e4c1c3bc49a5e857f1f649b4dfb498540c0aed2f92b00a3342df4ae219dd"), looks := false }, kinds := [], alts := [], laidByText := true, laidKinds := [.data], laidTests := true, laidLooks := .later }
def SquaresSidesCardSaid : Prop := Claim7.holds Tryd.pinned (.plain (OpenSpec.ofChange squaresSidesSpec)) squaresSidesCard

/-- THE TIED CARD OF 'cohesionlaw30.SquaresSums'. -/
def squaresSumsCard : Claim7 := { stood := { row := squaresSumsRow, standIns := [], harness := (true, "bcb5e4c1c3bc49a5e857f1f649b4dfb498540c0aed2f92b00a3342df4ae219dd"), looks := false }, kinds := [], alts := [], laidByText := true, laidKinds := [.data], laidTests := true, laidLooks := .later }
def SquaresSumsCardSaid : Prop := Claim7.holds Tryd.pinned (.plain (OpenSpec.ofChange squaresSumsSpec)) squaresSumsCard

/-- THE TIED CARD OF 'cohesionlaw30.SquaresKept'. -/
def squaresKeptCard : Claim7 := { stood := { row := squaresKeptRow, standIns := [], harness := (true, "bcb5e4c1c3bc49a5e857f1f649b4dfb498540c0aed2f92b00a3342df4ae219dd"), looks := false }, kinds := [], alts := [], laidByText := true, laidKinds := [.data], laidTests := true, laidLooks := .later }
def SquaresKeptCardSaid : Prop := Claim7.holds Tryd.pinned (.plain (OpenSpec.ofChange squaresKeptSpec)) squaresKeptCard

/-- THE TIED CARD OF 'cohesionlaw30.SquaresAnswers'. -/
def squaresAnswersCard : Claim7 := { stood := { row := squaresAnswersRow, standIns := [], harness := (true, "bcb5e4c1c3bc49a5e857f1f649b4dfb498540c0aed2f92b00a3342df4ae219dd"), looks := false }, kinds := [], alts := [], laidByText := true, laidKinds := [.data], laidTests := true, laidLooks := .later }
def SquaresAnswersCardSaid : Prop := Claim7.holds Tryd.pinned (.plain (OpenSpec.ofChange squaresAnswersSpec)) squaresAnswersCard

/-- THE SECOND FORM's CARD OF 'cohesionlaw32.PatternsCopies'. -/
def patternsCopiesUptoCard : Claim7 := { stood := { row := patternsCopiesUptoRow, standIns := [], harness := (true, "bcb5e4c1c3bc49a5e857f1f649b4dfb498540c0aed2f92b00a3342df4ae219dd"), looks := false }, kinds := [], alts := [], laidByText := true, laidKinds := [.widerDeep, .data, .data], laidTests := true, laidLooks := .later }
def PatternsCopiesUptoCardSaid : Prop := Claim7.holds Tryd.pinned (.plain (OpenSpec.upto patternsCopiesSpec)) patternsCopiesUptoCard

/-- THE SECOND FORM's CARD OF 'cohesionlaw32.PatternsNames'. -/
def patternsNamesUptoCard : Claim7 := { stood := { row := patternsNamesUptoRow, standIns := [], harness := (true, "bcb5e4c1c3bc49a5e857f1f649b4dfb498540c0aed2f92b00a3342df4ae219dd"), looks := false }, kinds := [], alts := [], laidByText := true, laidKinds := [.widerDeep, .data, .data], laidTests := true, laidLooks := .later }
def PatternsNamesUptoCardSaid : Prop := Claim7.holds Tryd.pinned (.plain (OpenSpec.upto patternsNamesSpec)) patternsNamesUptoCard

/-- THE SECOND FORM's CARD OF 'cohesionlaw30.SquaresSides'. -/
def squaresSidesUptoCard : Claim7 := { stood := { row := squaresSidesUptoRow, standIns := [], harness := (true, "bcb5e4c1c3bc49a5e857f1f649b4dfb498540c0aed2f92b00a3342df4ae219dd"), looks := false }, kinds := [], alts := [], laidByText := true, laidKinds := [.data], laidTests := true, laidLooks := .later }
def SquaresSidesUptoCardSaid : Prop := Claim7.holds Tryd.pinned (.plain (OpenSpec.upto squaresSidesSpec)) squaresSidesUptoCard

/-- THE SECOND FORM's CARD OF 'cohesionlaw30.SquaresSums'. -/
def squaresSumsUptoCard : Claim7 := { stood := { row := squaresSumsUptoRow, standIns := [], harness := (true, "bcb5e4c1c3bc49a5e857f1f649b4dfb498540c0aed2f92b00a3342df4ae219dd"), looks := false }, kinds := [], alts := [], laidByText := true, laidKinds := [.data], laidTests := true, laidLooks := .later }
def SquaresSumsUptoCardSaid : Prop := Claim7.holds Tryd.pinned (.plain (OpenSpec.upto squaresSumsSpec)) squaresSumsUptoCard

/-- THE SECOND FORM's CARD OF 'cohesionlaw30.SquaresKept'. -/
def squaresKeptUptoCard : Claim7 := { stood := { row := squaresKeptUptoRow, standIns := [], harness := (true, "bcb5e4c1c3bc49a5e857f1f649b4dfb498540c0aed2f92b00a3342df4ae219dd"), looks := false }, kinds := [], alts := [], laidByText := true, laidKinds := [.data], laidTests := true, laidLooks := .later }
def SquaresKeptUptoCardSaid : Prop := Claim7.holds Tryd.pinned (.plain (OpenSpec.upto squaresKeptSpec)) squaresKeptUptoCard

/-- THE SECOND FORM's CARD OF 'cohesionlaw30.SquaresAnswers'. -/
def squaresAnswersUptoCard : Claim7 := { stood := { row := squaresAnswersUptoRow, standIns := [], harness := (true, "bcb5e4c1c3bc49a5e857f1f649b4dfb498540c0aed2f92b00a3342df4ae219dd"), looks := false }, kinds := [], alts := [], laidByText := true, laidKinds := [.data], laidTests := true, laidLooks := .later }
def SquaresAnswersUptoCardSaid : Prop := Claim7.holds Tryd.pinned (.plain (OpenSpec.upto squaresAnswersSpec)) squaresAnswersUptoCard
end Rows
end Go.Proofs.YtekbpoppajbljaaDoor
