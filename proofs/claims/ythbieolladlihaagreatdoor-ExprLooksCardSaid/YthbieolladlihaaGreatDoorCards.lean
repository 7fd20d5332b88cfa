/-
  DERIVED. GIVEN WITH THE SEED: THE CARDS: each row of YthbieolladlihaaGreatDoorRows.lean that lists a variable, with what it lists TIED to the program's text (the seventh form; the later family's looks); each row that meets fmt, with fmt's text TOLD by the authors' own Lean function (tested against real Go, not proved from fmt's source: count such statements apart). THE CARD IS WHAT COUNTS. Prove the row's statement (the work); the ties are given (YthbieolladlihaaGreatDoorTie.lean); close each card by the builder's one call (the guide's Derived/Test/ToyasCard.lean, 'card_holds'). Laid BY PROGRAM, IN A SANDBOX (cutbox-door.mjs). By AI agents, Wed Nov 11 2026. No macro, syntax, notation, axiom, sorry.
-/
import Derived.Test.YthbieolladlihaaGreatDoorRows
import GoSem.ClaimSeven
namespace Go.Proofs.YthbieolladlihaaGreatDoor
namespace Rows

/-- THE TIED CARD OF 'commissarylaw10.ExprChecks'. -/
def exprChecksCard : Claim7 := { stood := { row := exprChecksRow, standIns := [], harness := (true, "be11fa651cb9d3739d891904a451281d79a3a89a1b05c3e97856c4ef1efd6771"), looks := false }, kinds := [], alts := [], laidByText := true, laidKinds := [.data, .data, .data, .data, .data, .data, .pinned], laidTests := true, laidLooks := .later }
def ExprChecksCardSaid : Prop := Claim7.holds Tryz.pinned (.plain (OpenSpec.ofChange exprChecksSpec)) exprChecksCard

/-- THE TIED CARD OF 'commissarylaw10.ExprLooks'. -/
def exprLooksCard : Claim7 := { stood := { row := exprLooksRow, standIns := [], harness := (true, "be11fa651cb9d3739d891904a451281d79a3a89a1b05c3e97856c4ef1efd6771"), looks := false }, kinds := [], alts := [], laidByText := true, laidKinds := [.data, .data, .data, .data, .data, .data, .pinned], laidTests := true, laidLooks := .later }
def ExprLooksCardSaid : Prop := Claim7.holds Tryz.pinned (.plain (OpenSpec.ofChange exprLooksSpec)) exprLooksCard

/-- THE TIED CARD OF 'commissarylaw10.ExprTexts'. -/
def exprTextsCard : Claim7 := { stood := { row := exprTextsRow, standIns := [], harness := (true, "be11fa651cb9d3739d891904a451281d79a3a89a1b05c3e97856c4ef1efd6771"), looks := false }, kinds := [], alts := [], laidByText := true, laidKinds := [.data, .data, .data, .data, .data, .data, .pinned], laidTests := true, laidLooks := .later }
def ExprTextsCardSaid : Prop := Claim7.holds Tryz.pinned (.plain (OpenSpec.ofChange exprTextsSpec)) exprTextsCard

/-- THE SECOND FORM's CARD OF 'commissarylaw10.ExprChecks'. -/
def exprChecksUptoCard : Claim7 := { stood := { row := exprChecksUptoRow, standIns := [], harness := (true, "be11fa651cb9d3739d891904a451281d79a3a89a1b05c3e97856c4ef1efd6771"), looks := false }, kinds := [], alts := [], laidByText := true, laidKinds := [.data, .data, .data, .data, .data, .data, .pinned], laidTests := true, laidLooks := .later }
def ExprChecksUptoCardSaid : Prop := Claim7.holds Tryz.pinned (.plain (OpenSpec.upto exprChecksSpec)) exprChecksUptoCard

/-- THE SECOND FORM's CARD OF 'commissarylaw10.ExprLooks'. -/
def exprLooksUptoCard : Claim7 := { stood := { row := exprLooksUptoRow, standIns := [], harness := (true, "be11fa651cb9d3739d891904a451281d79a3a89a1b05c3e97856c4ef1efd6771"), looks := false }, kinds := [], alts := [], laidByText := true, laidKinds := [.data, .data, .data, .data, .data, .data, .pinned], laidTests := true, laidLooks := .later }
def ExprLooksUptoCardSaid : Prop := Claim7.holds Tryz.pinned (.plain (OpenSpec.upto exprLooksSpec)) exprLooksUptoCard

/-- THE SECOND FORM's CARD OF 'commissarylaw10.ExprTexts'. -/
def exprTextsUptoCard : Claim7 := { stood := { row := exprTextsUptoRow, standIns := [], harness := (true, "be11fa651cb9d3739d891904a451281d79a3a89a1b05c3e97856c4ef1efd6771"), looks := false }, kinds := [], alts := [], laidByText := true, laidKinds := [.data, .data, .data, .data, .data, .data, .pinned], laidTests := true, laidLooks := .later }
def ExprTextsUptoCardSaid : Prop := Claim7.holds Tryz.pinned (.plain (OpenSpec.upto exprTextsSpec)) exprTextsUptoCard
end Rows
end Go.Proofs.YthbieolladlihaaGreatDoor
