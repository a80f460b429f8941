/-
  DERIVED. GIVEN WITH THE SEED: THE CARDS: each row of YtkknknehchnccaaDoorRows.lean that lists a variable, with what it lists TIED to the program's text (the seventh form; the later family's looks); each row that meets fmt, with fmt's text TOLD by the authors' own Lean function (tested against real Go, not proved from fmt's source: count such statements apart). THE CARD IS WHAT COUNTS. Prove the row's statement (the work); the ties are given (YtkknknehchnccaaDoorTie.lean); close each card by the builder's one call (the guide's Derived/Test/ToyasCard.lean, 'card_holds'). Laid BY PROGRAM, IN A SANDBOX (cutbox-door.mjs). By AI agents, Wed Nov 11 2026. No macro, syntax, notation, axiom, sorry.
-/
import Derived.Test.YtkknknehchnccaaDoorRows
import GoSem.ClaimSeven
namespace Go.Proofs.YtkknknehchnccaaDoor
namespace Rows

/-- THE TIED CARD OF 'cohesionlaw14.NucleusAgrees'. -/
def nucleusAgreesCard : Claim7 := { stood := { row := nucleusAgreesRow, standIns := [], harness := (true, "d83d9f16dd756e7e1e95e87ee557645a2fbcc8fd6f9111a28d6d5893e643793f"), looks := false }, kinds := [], alts := [], laidByText := true, laidKinds := [.data], laidTests := true, laidLooks := .later }
def NucleusAgreesCardSaid : Prop := Claim7.holds Tryd.pinned (.plain (OpenSpec.ofChange nucleusAgreesSpec)) nucleusAgreesCard

/-- THE TIED CARD OF 'cohesionlaw14.NucleusDense'. -/
def nucleusDenseCard : Claim7 := { stood := { row := nucleusDenseRow, standIns := [], harness := (true, "d83d9f16dd756e7e1e95e87ee557645a2fbcc8fd6f9111a28d6d5893e643793f"), looks := false }, kinds := [], alts := [], laidByText := true, laidKinds := [.data], laidTests := true, laidLooks := .later }
def NucleusDenseCardSaid : Prop := Claim7.holds Tryd.pinned (.plain (OpenSpec.ofChange nucleusDenseSpec)) nucleusDenseCard

/-- THE TIED CARD OF 'cohesionlaw14.NucleusNumbers'. -/
def nucleusNumbersCard : Claim7 := { stood := { row := nucleusNumbersRow, standIns := [], harness := (true, "d83d9f16dd756e7e1e95e87ee557645a2fbcc8fd6f9111a28d6d5893e643793f"), looks := false }, kinds := [], alts := [], laidByText := true, laidKinds := [.data], laidTests := true, laidLooks := .later }
def NucleusNumbersCardSaid : Prop := Claim7.holds Tryd.pinned (.plain (OpenSpec.ofChange nucleusNumbersSpec)) nucleusNumbersCard

/-- THE TIED CARD OF 'cohesionlaw14.NucleusChecks'. -/
def nucleusChecksCard : Claim7 := { stood := { row := nucleusChecksRow, standIns := [], harness := (true, "d83d9f16dd756e7e1e95e87ee557645a2fbcc8fd6f9111a28d6d5893e643793f"), looks := false }, kinds := [], alts := [], laidByText := true, laidKinds := [.data], laidTests := true, laidLooks := .later }
def NucleusChecksCardSaid : Prop := Claim7.holds Tryd.pinned (.plain (OpenSpec.ofChange nucleusChecksSpec)) nucleusChecksCard

/-- THE TIED CARD OF 'cohesionlaw11.RepairBack'. -/
def repairBackCard : Claim7 := { stood := { row := repairBackRow, standIns := [], harness := (true, "d83d9f16dd756e7e1e95e87ee557645a2fbcc8fd6f9111a28d6d5893e643793f"), looks := false }, kinds := [], alts := [], laidByText := true, laidKinds := [.data], laidTests := true, laidLooks := .later }
def RepairBackCardSaid : Prop := Claim7.holds Tryd.pinned (.plain (OpenSpec.ofChange repairBackSpec)) repairBackCard

/-- THE TIED CARD OF 'cohesionlaw11.RepairSteps'. -/
def repairStepsCard : Claim7 := { stood := { row := repairStepsRow, standIns := [], harness := (true, "d83d9f16dd756e7e1e95e87ee557645a2fbcc8fd6f9111a28d6d5893e643793f"), looks := false }, kinds := [], alts := [], laidByText := true, laidKinds := [.data], laidTests := true, laidLooks := .later }
def RepairStepsCardSaid : Prop := Claim7.holds Tryd.pinned (.plain (OpenSpec.ofChange repairStepsSpec)) repairStepsCard

/-- THE TIED CARD OF 'cohesionlaw11.RepairRegion'. -/
def repairRegionCard : Claim7 := { stood := { row := repairRegionRow, standIns := [], harness := (true, "d83d9f16dd756e7e1e95e87ee557645a2fbcc8fd6f9111a28d6d5893e643793f"), looks := false }, kinds := [], alts := [], laidByText := true, laidKinds := [.data], laidTests := true, laidLooks := .later }
def RepairRegionCardSaid : Prop := Claim7.holds Tryd.pinned (.plain (OpenSpec.ofChange repairRegionSpec)) repairRegionCard

/-- THE TIED CARD OF 'cohesionlaw11.RepairFollows'. -/
def repairFollowsCard : Claim7 := { stood := { row := repairFollowsRow, standIns := [], harness := (true, "d83d9f16dd756e7e1e95e87ee557645a2fbcc8fd6f9111a28d6d5893e643793f"), looks := false }, kinds := [], alts := [], laidByText := true, laidKinds := [.data], laidTests := true, laidLooks := .later }
def RepairFollowsCardSaid : Prop := Claim7.holds Tryd.pinned (.plain (OpenSpec.ofChange repairFollowsSpec)) repairFollowsCard

/-- THE TIED CARD OF 'cohesionlaw11.RepairScratch'. -/
def repairScratchCard : Claim7 := { stood := { row := repairScratchRow, standIns := [], harness := (true, "d83d9f16dd756e7e1e95e87ee557645a2fbcc8fd6f9111a28d6d5893e643793f"), looks := false }, kinds := [], alts := [], laidByText := true, laidKinds := [.data], laidTests := true, laidLooks := .later }
def RepairScratchCardSaid : Prop := Claim7.holds Tryd.pinned (.plain (OpenSpec.ofChange repairScratchSpec)) repairScratchCard

/-- THE SECOND FORM's CARD OF 'cohesionlaw14.NucleusAgrees'. -/
def nucleusAgreesUptoCard : Claim7 := { stood := { row := nucleusAgreesUptoRow, standIns := [], harness := (true, "d83d9f16dd756e7e1e95e87ee557645a2fbcc8fd6f9111a28d6d5893e643793f"), looks := false }, kinds := [], alts := [], laidByText := true, laidKinds := [.data], laidTests := true, laidLooks := .later }
def NucleusAgreesUptoCardSaid : Prop := Claim7.holds Tryd.pinned (.plain (OpenSpec.upto nucleusAgreesSpec)) nucleusAgreesUptoCard

/-- THE SECOND FORM's CARD OF 'cohesionlaw14.NucleusDense'. -/
def nucleusDenseUptoCard : Claim7 := { stood := { row := nucleusDenseUptoRow, standIns := [], harness := (true, "d83d9f16dd756e7e1e95e87ee557645a2fbcc8fd6f9111a28d6d5893e643793f"), looks := false }, kinds := [], alts := [], laidByText := true, laidKinds := [.data], laidTests := true, laidLooks := .later }
def NucleusDenseUptoCardSaid : Prop := Claim7.holds Tryd.pinned (.plain (OpenSpec.upto nucleusDenseSpec)) nucleusDenseUptoCard

/-- THE SECOND FORM's CARD OF 'cohesionlaw14.NucleusNumbers'. -/
def nucleusNumbersUptoCard : Claim7 := { stood := { row := nucleusNumbersUptoRow, standIns := [], harness := (true, "d83d9f16dd756e7e1e95e87ee557645a2fbcc8fd6f9111a28d6d5893e643793f"), looks := false }, kinds := [], alts := [], laidByText := true, laidKinds := [.data], laidTests := true, laidLooks := .later }
def NucleusNumbersUptoCardSaid : Prop := Claim7.holds Tryd.pinned (.plain (OpenSpec.upto nucleusNumbersSpec)) nucleusNumbersUptoCard

/-- THE SECOND FORM's CARD OF 'cohesionlaw14.NucleusChecks'. -/
def nucleusChecksUptoCard : Claim7 := { stood := { row := nucleusChecksUptoRow, standIns := [], harness := (true, "d83d9f16dd756e7e1e95e87ee557645a2fbcc8fd6f9111a28d6d5893e643793f"), looks := false }, kinds := [], alts := [], laidByText := true, laidKinds := [.data], laidTests := true, laidLooks := .later }
def NucleusChecksUptoCardSaid : Prop := Claim7.holds Tryd.pinned (.plain (OpenSpec.upto nucleusChecksSpec)) nucleusChecksUptoCard

/-- THE SECOND FORM's CARD OF 'cohesionlaw11.RepairBack'. -/
def repairBackUptoCard : Claim7 := { stood := { row := repairBackUptoRow, standIns := [], harness := (true, "d83d9f16dd756e7e1e95e87ee557645a2fbcc8fd6f9111a28d6d5893e643793f"), looks := false }, kinds := [], alts := [], laidByText := true, laidKinds := [.data], laidTests := true, laidLooks := .later }
def RepairBackUptoCardSaid : Prop := Claim7.holds Tryd.pinned (.plain (OpenSpec.upto repairBackSpec)) repairBackUptoCard

/-- THE SECOND FORM's CARD OF 'cohesionlaw11.RepairSteps'. -/
def repairStepsUptoCard : Claim7 := { stood := { row := repairStepsUptoRow, standIns := [], harness := (true, "d83d9f16dd756e7e1e95e87ee557645a2fbcc8fd6f9111a28d6d5893e643793f"), looks := false }, kinds := [], alts := [], laidByText := true, laidKinds := [.data], laidTests := true, laidLooks := .later }
def RepairStepsUptoCardSaid : Prop := Claim7.holds Tryd.pinned (.plain (OpenSpec.upto repairStepsSpec)) repairStepsUptoCard

/-- THE SECOND FORM's CARD OF 'cohesionlaw11.RepairRegion'. -/
def repairRegionUptoCard : Claim7 := { stood := { row := repairRegionUptoRow, standIns := [], harness := (true, "d83d9f16dd756e7e1e95e87ee557645a2fbcc8fd6f9111a28d6d5893e643793f"), looks := false }, kinds := [], alts := [], laidByText := true, laidKinds := [.data], laidTests := true, laidLooks := .later }
def RepairRegionUptoCardSaid : Prop := Claim7.holds Tryd.pinned (.plain (OpenSpec.upto repairRegionSpec)) repairRegionUptoCard

/-- THE SECOND FORM's CARD OF 'cohesionlaw11.RepairFollows'. -/
def repairFollowsUptoCard : Claim7 := { stood := { row := repairFollowsUptoRow, standIns := [], harness := (true, "d83d9f16dd756e7e1e95e87ee557645a2fbcc8fd6f9111a28d6d5893e643793f"), looks := false }, kinds := [], alts := [], laidByText := true, laidKinds := [.data], laidTests := true, laidLooks := .later }
def RepairFollowsUptoCardSaid : Prop := Claim7.holds Tryd.pinned (.plain (OpenSpec.upto repairFollowsSpec)) repairFollowsUptoCard

/-- THE SECOND FORM's CARD OF 'cohesionlaw11.RepairScratch'. -/
def repairScratchUptoCard : Claim7 := { stood := { row := repairScratchUptoRow, standIns := [], harness := (true, "d83d9f16dd756e7e1e95e87ee557645a2fbcc8fd6f9111a28d6d5893e643793f"), looks := false }, kinds := [], alts := [], laidByText := true, laidKinds := [.data], laidTests := true, laidLooks := .later }
def RepairScratchUptoCardSaid : Prop := Claim7.holds Tryd.pinned (.plain (OpenSpec.upto repairScratchSpec)) repairScratchUptoCard
end Rows
end Go.Proofs.YtkknknehchnccaaDoor
