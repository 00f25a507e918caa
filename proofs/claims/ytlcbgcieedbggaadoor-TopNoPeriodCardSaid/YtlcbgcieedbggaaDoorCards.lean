/-
  DERIVED. GIVEN WITH THE SEED: THE CARDS: each row of YtlcbgcieedbggaaDoorRows.lean that lists a variable, with what it lists TIED to the program's text (the seventh form; the later family's looks); each row that meets fmt, with fmt's text TOLD by the authors' own Lean function (tested against real Go, not proved from fmt's source: count such statements apart). THE CARD IS WHAT COUNTS. Prove the row's statement (the work); the ties are given (YtlcbgcieedbggaaDoorTie.lean); close each card by the builder's one call (the guide's Derived/Test/ToyasCard.lean, 'card_holds'). Laid BY PROGRAM, IN A SANDBOX (cutbox-door.mjs). By AI agents, Wed Nov 11 2026. No macro, syntax, notation, axiom, sorry.
-/
import Derived.Test.YtlcbgcieedbggaaDoorRows
import GoSem.ClaimSeven
namespace Go.Proofs.YtlcbgcieedbggaaDoor
namespace Rows

/-- THE TIED CARD OF 'groutworklaw04.StripRows'. -/
def stripRowsCard : Claim7 := { stood := { row := stripRowsRow, standIns := [], harness := (true, "565487d9003cb2a34265819444c43cc7db2d353bf893ffbce6b3d2dcf7b83743"), looks := true }, kinds := [], alts := [], laidByText := true, laidKinds := [.data, .data, .data, .data, .sentinel, .sentinel, .pinned], laidTests := true, laidLooks := .later }
def StripRowsCardSaid : Prop := Claim7.holds Tryd.pinned (.plain (OpenSpec.ofChange stripRowsSpec)) stripRowsCard

/-- THE TIED CARD OF 'groutworktop.TopNoPeriod'. -/
def topNoPeriodCard : Claim7 := { stood := { row := topNoPeriodRow, standIns := [], harness := (true, "565487d9003cb2a34265819444c43cc7db2d353bf893ffbce6b3d2dcf7b83743"), looks := true }, kinds := [], alts := [], laidByText := true, laidKinds := [.data], laidTests := true, laidLooks := .later }
def TopNoPeriodCardSaid : Prop := Claim7.holds Tryd.pinned (.plain (OpenSpec.ofChange topNoPeriodSpec)) topNoPeriodCard

/-- THE SECOND FORM's CARD OF 'groutworklaw04.StripRows'. -/
def stripRowsUptoCard : Claim7 := { stood := { row := stripRowsUptoRow, standIns := [], harness := (true, "565487d9003cb2a34265819444c43cc7db2d353bf893ffbce6b3d2dcf7b83743"), looks := true }, kinds := [], alts := [], laidByText := true, laidKinds := [.data, .data, .data, .data, .sentinel, .sentinel, .pinned], laidTests := true, laidLooks := .later }
def StripRowsUptoCardSaid : Prop := Claim7.holds Tryd.pinned (.plain (OpenSpec.upto stripRowsSpec)) stripRowsUptoCard

/-- THE SECOND FORM's CARD OF 'groutworktop.TopNoPeriod'. -/
def topNoPeriodUptoCard : Claim7 := { stood := { row := topNoPeriodUptoRow, standIns := [], harness := (true, "565487d9003cb2a34265819444c43cc7db2d353bf893ffbce6b3d2dcf7b83743"), looks := true }, kinds := [], alts := [], laidByText := true, laidKinds := [.data], laidTests := true, laidLooks := .later }
def TopNoPeriodUptoCardSaid : Prop := Claim7.holds Tryd.pinned (.plain (OpenSpec.upto topNoPeriodSpec)) topNoPeriodUptoCard
end Rows
end Go.Proofs.YtlcbgcieedbggaaDoor
