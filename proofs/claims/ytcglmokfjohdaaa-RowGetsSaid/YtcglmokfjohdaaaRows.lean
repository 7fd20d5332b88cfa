/-
  No cell of these rows narrows 'for every input' (looked for: loops, veiled, ifaces, maps, wideKeys, modest, calm, conditions, laid).
  DERIVED. THE GIVEN ROWS OF THIS SEAT. 5 by the template 'for every input the law returns true; each argument reads behind the call as it read before'; 0 by the template 'total and deterministic' (their statements: YtcglmokfjohdaaaTotals.lean).
  GIVEN WITH THE SEED: the statements are not yours to turn. If you find one false, say at which input.
  Laid BY PROGRAM, IN A SANDBOX (cutbox-rows.mjs): the forced cells as the released guide's own fill.sh prints them over the translation 2655881bd3716838… (all of the seat's roots in one cut). By AI agents, Wed Nov 11 2026. No macro, syntax, notation, axiom, sorry.
-/
import Derived.Test.YtcglmokfjohdaaaChecked
import GoSem.Claim
import GoSem.ClaimJoined
import GoSem.ClaimMapViews
import Derived.JoinedTies
import Derived.KernelRfl
namespace Go.Proofs.Ytcglmokfjohdaaa
/- THE CELL 'sum', in the pinned program and in every row, IS THE sha256 OF THE DUMP (.gsa) THAT YtcglmokfjohdaaaProg.lean LOADS. Nothing in Lean hashes anything: it is a label: what it is worth is what the hold of that sum in a sandbox is worth. -/
noncomputable def Try.pinned : Pinned := { name := "ytcglmokfjohdaaa", sum := "2655881bd371683808cdf980cacb3cb17403262e96ea06befffe3e6d0876869d", checked := Try.checked }
namespace Rows
def none {H : Type} : Left H := { results := [], args := [] }

/-- 'commissarylaw02.RowCodes': WHATEVER THE INPUT: true; the input reads as it did. -/
def rowCodesSpec : ChangeSpec := { name := "rowCodes", fn := fun _ => fun
  | [d1, d2] => { results := [.lit (.bool true)], args := [d1, d2] }
  | _ => none }
def rowCodesRow : OpenClaim := { program := "ytcglmokfjohdaaa", sum := "2655881bd371683808cdf980cacb3cb17403262e96ea06befffe3e6d0876869d", func := "commissary/commissarylaw02.RowCodes", spec := "rowCodes", unfollowed := true, recurses := true, apart := false }
def RowCodesSaid : Prop := rowCodesRow.holds Try.pinned (OpenSpec.ofChange rowCodesSpec)

/-- ITS FALSE NEIGHBOUR: 'it returns false'. Refute it at one input. -/
def rowCodesWrong : ChangeSpec := { name := "rowCodes", fn := fun _ => fun
  | [d1, d2] => { results := [.lit (.bool false)], args := [d1, d2] }
  | _ => none }
def RowCodesWrongFalsely : Prop := rowCodesRow.holds Try.pinned (OpenSpec.ofChange rowCodesWrong)

/-- 'commissarylaw02.RowGets': WHATEVER THE INPUT: true; the input reads as it did. -/
def rowGetsSpec : ChangeSpec := { name := "rowGets", fn := fun _ => fun
  | [d] => { results := [.lit (.bool true)], args := [d] }
  | _ => none }
def rowGetsRow : OpenClaim := { program := "ytcglmokfjohdaaa", sum := "2655881bd371683808cdf980cacb3cb17403262e96ea06befffe3e6d0876869d", func := "commissary/commissarylaw02.RowGets", spec := "rowGets", unfollowed := true, recurses := true, apart := false }
def RowGetsSaid : Prop := rowGetsRow.holds Try.pinned (OpenSpec.ofChange rowGetsSpec)

/-- ITS FALSE NEIGHBOUR: 'it returns false'. Refute it at one input. -/
def rowGetsWrong : ChangeSpec := { name := "rowGets", fn := fun _ => fun
  | [d] => { results := [.lit (.bool false)], args := [d] }
  | _ => none }
def RowGetsWrongFalsely : Prop := rowGetsRow.holds Try.pinned (OpenSpec.ofChange rowGetsWrong)

/-- 'commissarylaw02.RowOrders': WHATEVER THE INPUT: true; the input reads as it did. -/
def rowOrdersSpec : ChangeSpec := { name := "rowOrders", fn := fun _ => fun
  | [d1, d2, d3, d4] => { results := [.lit (.bool true)], args := [d1, d2, d3, d4] }
  | _ => none }
def rowOrdersRow : OpenClaim := { program := "ytcglmokfjohdaaa", sum := "2655881bd371683808cdf980cacb3cb17403262e96ea06befffe3e6d0876869d", func := "commissary/commissarylaw02.RowOrders", spec := "rowOrders", unfollowed := true, recurses := true, apart := false }
def RowOrdersSaid : Prop := rowOrdersRow.holds Try.pinned (OpenSpec.ofChange rowOrdersSpec)

/-- ITS FALSE NEIGHBOUR: 'it returns false'. Refute it at one input. -/
def rowOrdersWrong : ChangeSpec := { name := "rowOrders", fn := fun _ => fun
  | [d1, d2, d3, d4] => { results := [.lit (.bool false)], args := [d1, d2, d3, d4] }
  | _ => none }
def RowOrdersWrongFalsely : Prop := rowOrdersRow.holds Try.pinned (OpenSpec.ofChange rowOrdersWrong)

/-- 'commissarylaw02.RowParts': WHATEVER THE INPUT: true; the input reads as it did. -/
def rowPartsSpec : ChangeSpec := { name := "rowParts", fn := fun _ => fun
  | [d1, d2, d3, d4] => { results := [.lit (.bool true)], args := [d1, d2, d3, d4] }
  | _ => none }
def rowPartsRow : OpenClaim := { program := "ytcglmokfjohdaaa", sum := "2655881bd371683808cdf980cacb3cb17403262e96ea06befffe3e6d0876869d", func := "commissary/commissarylaw02.RowParts", spec := "rowParts", unfollowed := true, recurses := true, apart := false }
def RowPartsSaid : Prop := rowPartsRow.holds Try.pinned (OpenSpec.ofChange rowPartsSpec)

/-- ITS FALSE NEIGHBOUR: 'it returns false'. Refute it at one input. -/
def rowPartsWrong : ChangeSpec := { name := "rowParts", fn := fun _ => fun
  | [d1, d2, d3, d4] => { results := [.lit (.bool false)], args := [d1, d2, d3, d4] }
  | _ => none }
def RowPartsWrongFalsely : Prop := rowPartsRow.holds Try.pinned (OpenSpec.ofChange rowPartsWrong)

/-- 'commissarylaw02.RowSorts': WHATEVER THE INPUT: true; the input reads as it did. -/
def rowSortsSpec : ChangeSpec := { name := "rowSorts", fn := fun _ => fun
  | [d] => { results := [.lit (.bool true)], args := [d] }
  | _ => none }
def rowSortsRow : OpenClaim := { program := "ytcglmokfjohdaaa", sum := "2655881bd371683808cdf980cacb3cb17403262e96ea06befffe3e6d0876869d", func := "commissary/commissarylaw02.RowSorts", spec := "rowSorts", unfollowed := true, recurses := true, apart := false }
def RowSortsSaid : Prop := rowSortsRow.holds Try.pinned (OpenSpec.ofChange rowSortsSpec)

/-- ITS FALSE NEIGHBOUR: 'it returns false'. Refute it at one input. -/
def rowSortsWrong : ChangeSpec := { name := "rowSorts", fn := fun _ => fun
  | [d] => { results := [.lit (.bool false)], args := [d] }
  | _ => none }
def RowSortsWrongFalsely : Prop := rowSortsRow.holds Try.pinned (OpenSpec.ofChange rowSortsWrong)

/- THE SECOND FORM. 'bulk': how many values and letters a reading holds, each counted each time it is reached (what is shared counts as often as it is met; a slice's spare places count too). A statement '..UptoSaid' is the law's where the arguments, and the package variables that the reading takes, are together of bulk at most 1048576: NARROWER than '..Said'. Prove '..Said' where nothing that the law and all that it calls make is longer than what came in: it says more and counts as full. Else prove '..UptoSaid'. A law counts once. -/
mutual
def uptoBulk {H : Type} : DataW H → Nat
  | .lit (.string bytes) => bytes.length + 1
  | .lit _ => 1
  | .nil => 1
  | .ptr d => uptoBulk d + 1
  | .slice elems spare => uptoBulkAll elems + uptoBulkAll spare + 1
  | .agg parts => uptoBulkAll parts + 1
  | .iface _ d => uptoBulk d + 1
  | .map entries => uptoBulkEntries entries + 1
  | .held _ => 1
def uptoBulkAll {H : Type} : List (DataW H) → Nat
  | [] => 0
  | d :: r => uptoBulk d + uptoBulkAll r
def uptoBulkEntries {H : Type} : List (Lit × DataW H) → Nat
  | [] => 0
  | x :: r => uptoBulkEntry x + uptoBulkEntries r
def uptoBulkEntry {H : Type} : Lit × DataW H → Nat
  | (.string bytes, d) => bytes.length + uptoBulk d + 1
  | (_, d) => uptoBulk d + 1
 end
def uptoSmall : (H : Type) → List (DataW H) → Bool := fun _ ds => decide (uptoBulkAll ds ≤ 1048576)
def OpenSpec.upto (s : _root_.Go.ChangeSpec) : _root_.Go.OpenSpec := { _root_.Go.OpenSpec.ofChange s with cond := some uptoSmall }

/-- 'commissarylaw02.RowCodes', WHERE WHAT IT READS IS OF BULK AT MOST 1048576: true; the input reads as it did. -/
def rowCodesUptoRow : OpenClaim := { program := "ytcglmokfjohdaaa", sum := "2655881bd371683808cdf980cacb3cb17403262e96ea06befffe3e6d0876869d", func := "commissary/commissarylaw02.RowCodes", spec := "rowCodes", unfollowed := true, recurses := true, apart := false, narrowed := true }
def RowCodesUptoSaid : Prop := rowCodesUptoRow.holds Try.pinned (OpenSpec.upto rowCodesSpec)

/-- 'commissarylaw02.RowGets', WHERE WHAT IT READS IS OF BULK AT MOST 1048576: true; the input reads as it did. -/
def rowGetsUptoRow : OpenClaim := { program := "ytcglmokfjohdaaa", sum := "2655881bd371683808cdf980cacb3cb17403262e96ea06befffe3e6d0876869d", func := "commissary/commissarylaw02.RowGets", spec := "rowGets", unfollowed := true, recurses := true, apart := false, narrowed := true }
def RowGetsUptoSaid : Prop := rowGetsUptoRow.holds Try.pinned (OpenSpec.upto rowGetsSpec)

/-- 'commissarylaw02.RowOrders', WHERE WHAT IT READS IS OF BULK AT MOST 1048576: true; the input reads as it did. -/
def rowOrdersUptoRow : OpenClaim := { program := "ytcglmokfjohdaaa", sum := "2655881bd371683808cdf980cacb3cb17403262e96ea06befffe3e6d0876869d", func := "commissary/commissarylaw02.RowOrders", spec := "rowOrders", unfollowed := true, recurses := true, apart := false, narrowed := true }
def RowOrdersUptoSaid : Prop := rowOrdersUptoRow.holds Try.pinned (OpenSpec.upto rowOrdersSpec)

/-- 'commissarylaw02.RowParts', WHERE WHAT IT READS IS OF BULK AT MOST 1048576: true; the input reads as it did. -/
def rowPartsUptoRow : OpenClaim := { program := "ytcglmokfjohdaaa", sum := "2655881bd371683808cdf980cacb3cb17403262e96ea06befffe3e6d0876869d", func := "commissary/commissarylaw02.RowParts", spec := "rowParts", unfollowed := true, recurses := true, apart := false, narrowed := true }
def RowPartsUptoSaid : Prop := rowPartsUptoRow.holds Try.pinned (OpenSpec.upto rowPartsSpec)

/-- 'commissarylaw02.RowSorts', WHERE WHAT IT READS IS OF BULK AT MOST 1048576: true; the input reads as it did. -/
def rowSortsUptoRow : OpenClaim := { program := "ytcglmokfjohdaaa", sum := "2655881bd371683808cdf980cacb3cb17403262e96ea06befffe3e6d0876869d", func := "commissary/commissarylaw02.RowSorts", spec := "rowSorts", unfollowed := true, recurses := true, apart := false, narrowed := true }
def RowSortsUptoSaid : Prop := rowSortsUptoRow.holds Try.pinned (OpenSpec.upto rowSortsSpec)

end Rows
end Go.Proofs.Ytcglmokfjohdaaa
