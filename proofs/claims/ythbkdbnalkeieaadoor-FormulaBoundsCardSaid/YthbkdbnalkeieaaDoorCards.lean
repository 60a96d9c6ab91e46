/-
  DERIVED. GIVEN WITH THE SEED: THE CARDS: each row of YthbkdbnalkeieaaDoorRows.lean that lists a variable, with what it lists TIED to the program's text (the seventh form; the later family's looks); each row that meets fmt, with fmt's text TOLD by the authors' own Lean function (tested against real Go, not proved from fmt's source: count such statements apart). THE CARD IS WHAT COUNTS. Prove the row's statement (the work); the ties are given (YthbkdbnalkeieaaDoorTie.lean); close each card by the builder's one call (the guide's Derived/Test/ToyasCard.lean, 'card_holds'). Laid BY PROGRAM, IN A SANDBOX (cutbox-door.mjs). By AI agents, Wed Nov 11 2026. No macro, syntax, notation, axiom, sorry.
-/
import Derived.Test.YthbkdbnalkeieaaDoorRows
import GoSem.ClaimSeven
namespace Go.Proofs.YthbkdbnalkeieaaDoor
namespace Rows

/-- THE TIED CARD OF 'merestonelaw22.FormulaParses'. -/
def formulaParsesCard : Claim7 := { stood := { row := formulaParsesRow, standIns := [], harness := (true, "d46114a10803d2e5200cf81f09c3f611df98c7d9a6a515a058e866604321210d"), looks := true }, kinds := [], alts := [], laidByText := true, laidKinds := [.data, .data, .data], laidTests := true, laidLooks := .later }
def FormulaParsesCardSaid : Prop := Claim7.holds Tryd.pinned (.plain (OpenSpec.ofChange formulaParsesSpec)) formulaParsesCard

/-- THE TIED CARD OF 'merestonelaw22.FormulaBounds'. -/
def formulaBoundsCard : Claim7 := { stood := { row := formulaBoundsRow, standIns := [], harness := (true, "d46114a10803d2e5200cf81f09c3f611df98c7d9a6a515a058e866604321210d"), looks := true }, kinds := [], alts := [], laidByText := true, laidKinds := [.data, .data, .data], laidTests := true, laidLooks := .later }
def FormulaBoundsCardSaid : Prop := Claim7.holds Tryd.pinned (.plain (OpenSpec.ofChange formulaBoundsSpec)) formulaBoundsCard

/-- THE TIED CARD OF 'merestonelaw22.FormulaMeans'. -/
def formulaMeansCard : Claim7 := { stood := { row := formulaMeansRow, standIns := [], harness := (true, "d46114a10803d2e5200cf81f09c3f611df98c7d9a6a515a058e866604321210d"), looks := true }, kinds := [], alts := [], laidByText := true, laidKinds := [.data, .data, .data], laidTests := true, laidLooks := .later }
def FormulaMeansCardSaid : Prop := Claim7.holds Tryd.pinned (.plain (OpenSpec.ofChange formulaMeansSpec)) formulaMeansCard

/-- THE TIED CARD OF 'merestonelaw22.FormulaLaws'. -/
def formulaLawsCard : Claim7 := { stood := { row := formulaLawsRow, standIns := [], harness := (true, "d46114a10803d2e5200cf81f09c3f611df98c7d9a6a515a058e866604321210d"), looks := true }, kinds := [], alts := [], laidByText := true, laidKinds := [.data, .data, .data], laidTests := true, laidLooks := .later }
def FormulaLawsCardSaid : Prop := Claim7.holds Tryd.pinned (.plain (OpenSpec.ofChange formulaLawsSpec)) formulaLawsCard

/-- THE TIED CARD OF 'merestonelaw22.FormulaTexts'. -/
def formulaTextsCard : Claim7 := { stood := { row := formulaTextsRow, standIns := [], harness := (true, "d46114a10803d2e5200cf81f09c3f611df98c7d9a6a515a058e866604321210d"), looks := true }, kinds := [], alts := [], laidByText := true, laidKinds := [.data, .data, .data], laidTests := true, laidLooks := .later }
def FormulaTextsCardSaid : Prop := Claim7.holds Tryd.pinned (.plain (OpenSpec.ofChange formulaTextsSpec)) formulaTextsCard

/-- THE TIED CARD OF 'merestonelaw22.FormulaWalks'. -/
def formulaWalksCard : Claim7 := { stood := { row := formulaWalksRow, standIns := [], harness := (true, "d46114a10803d2e5200cf81f09c3f611df98c7d9a6a515a058e866604321210d"), looks := true }, kinds := [], alts := [], laidByText := true, laidKinds := [.data, .data, .data], laidTests := true, laidLooks := .later }
def FormulaWalksCardSaid : Prop := Claim7.holds Tryd.pinned (.plain (OpenSpec.ofChange formulaWalksSpec)) formulaWalksCard

/-- THE SECOND FORM's CARD OF 'merestonelaw22.FormulaParses'. -/
def formulaParsesUptoCard : Claim7 := { stood := { row := formulaParsesUptoRow, standIns := [], harness := (true, "d46114a10803d2e5200cf81f09c3f611df98c7d9a6a515a058e866604321210d"), looks := true }, kinds := [], alts := [], laidByText := true, laidKinds := [.data, .data, .data], laidTests := true, laidLooks := .later }
def FormulaParsesUptoCardSaid : Prop := Claim7.holds Tryd.pinned (.plain (OpenSpec.upto formulaParsesSpec)) formulaParsesUptoCard

/-- THE SECOND FORM's CARD OF 'merestonelaw22.FormulaBounds'. -/
def formulaBoundsUptoCard : Claim7 := { stood := { row := formulaBoundsUptoRow, standIns := [], harness := (true, "d46114a10803d2e5200cf81f09c3f611df98c7d9a6a515a058e866604321210d"), looks := true }, kinds := [], alts := [], laidByText := true, laidKinds := [.data, .data, .data], laidTests := true, laidLooks := .later }
def FormulaBoundsUptoCardSaid : Prop := Claim7.holds Tryd.pinned (.plain (OpenSpec.upto formulaBoundsSpec)) formulaBoundsUptoCard

/-- THE SECOND FORM's CARD OF 'merestonelaw22.FormulaMeans'. -/
def formulaMeansUptoCard : Claim7 := { stood := { row := formulaMeansUptoRow, standIns := [], harness := (true, "d46114a10803d2e5200cf81f09c3f611df98c7d9a6a515a058e866604321210d"), looks := true }, kinds := [], alts := [], laidByText := true, laidKinds := [.data, .data, .data], laidTests := true, laidLooks := .later }
def FormulaMeansUptoCardSaid : Prop := Claim7.holds Tryd.pinned (.plain (OpenSpec.upto formulaMeansSpec)) formulaMeansUptoCard

/-- THE SECOND FORM's CARD OF 'merestonelaw22.FormulaLaws'. -/
def formulaLawsUptoCard : Claim7 := { stood := { row := formulaLawsUptoRow, standIns := [], harness := (true, "d46114a10803d2e5200cf81f09c3f611df98c7d9a6a515a058e866604321210d"), looks := true }, kinds := [], alts := [], laidByText := true, laidKinds := [.data, .data, .data], laidTests := true, laidLooks := .later }
def FormulaLawsUptoCardSaid : Prop := Claim7.holds Tryd.pinned (.plain (OpenSpec.upto formulaLawsSpec)) formulaLawsUptoCard

/-- THE SECOND FORM's CARD OF 'merestonelaw22.FormulaTexts'. -/
def formulaTextsUptoCard : Claim7 := { stood := { row := formulaTextsUptoRow, standIns := [], harness := (true, "d46114a10803d2e5200cf81f09c3f611df98c7d9a6a515a058e866604321210d"), looks := true }, kinds := [], alts := [], laidByText := true, laidKinds := [.data, .data, .data], laidTests := true, laidLooks := .later }
def FormulaTextsUptoCardSaid : Prop := Claim7.holds Tryd.pinned (.plain (OpenSpec.upto formulaTextsSpec)) formulaTextsUptoCard

/-- THE SECOND FORM's CARD OF 'merestonelaw22.FormulaWalks'. -/
def formulaWalksUptoCard : Claim7 := { stood := { row := formulaWalksUptoRow, standIns := [], harness := (true, "d46114a10803d2e5200cf81f09c3f611df98c7d9a6a515a058e866604321210d"), looks := true }, kinds := [], alts := [], laidByText := true, laidKinds := [.data, .data, .data], laidTests := true, laidLooks := .later }
def FormulaWalksUptoCardSaid : Prop := Claim7.holds Tryd.pinned (.plain (OpenSpec.upto formulaWalksSpec)) formulaWalksUptoCard
end Rows
end Go.Proofs.YthbkdbnalkeieaaDoor
