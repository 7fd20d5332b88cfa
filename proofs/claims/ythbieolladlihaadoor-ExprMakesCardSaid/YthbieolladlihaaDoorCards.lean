/-
  DERIVED. GIVEN WITH THE SEED: THE CARDS: each row of YthbieolladlihaaDoorRows.lean that lists a variable, with what it lists TIED to the program's text (the seventh form; the later family's looks); each row that meets fmt, with fmt's text TOLD by the authors' own Lean function (tested against real Go, not proved from fmt's source: count such statements apart). THE CARD IS WHAT COUNTS. Prove the row's statement (the work); the ties are given (YthbieolladlihaaDoorTie.lean); close each card by the builder's one call (the guide's Derived/Test/ToyasCard.lean, 'card_holds'). Laid BY PROGRAM, IN A SANDBOX (cutbox-door.mjs). By AI agents, Wed Nov 11 2026. No macro, syntax, notation, axiom, sorry.
-/
import Derived.Test.YthbieolladlihaaDoorRows
import GoSem.ClaimSeven
namespace Go.Proofs.YthbieolladlihaaDoor
namespace Rows

/-- THE TIED CARD OF 'commissarylaw10.ExprMakes'. -/
def exprMakesCard : Claim7 := { stood := { row := exprMakesRow, standIns := [], harness := (true, "7806c48ea155f67fcfe49d4e92d7cd31c11fa515140c9aca856d3867cafd5939"), looks := false }, kinds := [], alts := [], laidByText := true, laidKinds := [.data, .data, .data, .data, .data, .data, .pinned], laidTests := true, laidLooks := .later }
def ExprMakesCardSaid : Prop := Claim7.holds Tryd.pinned (.plain (OpenSpec.ofChange exprMakesSpec)) exprMakesCard

/-- THE SECOND FORM's CARD OF 'commissarylaw10.ExprMakes'. -/
def exprMakesUptoCard : Claim7 := { stood := { row := exprMakesUptoRow, standIns := [], harness := (true, "7806c48ea155f67fcfe49d4e92d7cd31c11fa515140c9aca856d3867cafd5939"), looks := false }, kinds := [], alts := [], laidByText := true, laidKinds := [.data, .data, .data, .data, .data, .data, .pinned], laidTests := true, laidLooks := .later }
def ExprMakesUptoCardSaid : Prop := Claim7.holds Tryd.pinned (.plain (OpenSpec.upto exprMakesSpec)) exprMakesUptoCard
end Rows
end Go.Proofs.YthbieolladlihaaDoor
