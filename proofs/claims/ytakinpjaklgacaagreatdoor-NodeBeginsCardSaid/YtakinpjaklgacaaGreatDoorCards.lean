/-
  DERIVED. GIVEN WITH THE SEED: THE CARDS: each row of YtakinpjaklgacaaGreatDoorRows.lean that lists a variable, with what it lists TIED to the program's text (the seventh form; the later family's looks); each row that meets fmt, with fmt's text TOLD by the authors' own Lean function (tested against real Go, not proved from fmt's source: count such statements apart). THE CARD IS WHAT COUNTS. Prove the row's statement (the work); the ties are given (YtakinpjaklgacaaGreatDoorTie.lean); close each card by the builder's one call (the guide's Derived/Test/ToyasCard.lean, 'card_holds'). Laid BY PROGRAM, IN A SANDBOX (cutbox-door.mjs). By AI agents, Wed Nov 11 2026. No macro, syntax, notation, axiom, sorry.
-/
import Derived.Test.YtakinpjaklgacaaGreatDoorRows
import GoSem.ClaimSeven
namespace Go.Proofs.YtakinpjaklgacaaGreatDoor
namespace Rows

/-- THE TIED CARD OF 'changeoverlaw40.NodeBegins'. -/
def nodeBeginsCard : Claim7 := { stood := { row := nodeBeginsRow, standIns := [], harness := (true, "25ecd2931196f7be3ac9830c06876b23806b68ff4f4fdf48abe0ed3d0d01ff32"), looks := true }, kinds := [], alts := [], laidByText := true, laidKinds := [.data, .data, .pinned], laidTests := true, laidLooks := .later }
def NodeBeginsCardSaid : Prop := Claim7.holds Tryz.pinned (.plain (OpenSpec.ofChange nodeBeginsSpec)) nodeBeginsCard

/-- THE TIED CARD OF 'changeoverlaw40.NodeKeeps'. -/
def nodeKeepsCard : Claim7 := { stood := { row := nodeKeepsRow, standIns := [], harness := (true, "25ecd2931196f7be3ac9830c06876b23806b68ff4f4fdf48abe0ed3d0d01ff32"), looks := true }, kinds := [], alts := [], laidByText := true, laidKinds := [.data, .data, .pinned], laidTests := true, laidLooks := .later }
def NodeKeepsCardSaid : Prop := Claim7.holds Tryz.pinned (.plain (OpenSpec.ofChange nodeKeepsSpec)) nodeKeepsCard

/-- THE SECOND FORM's CARD OF 'changeoverlaw40.NodeBegins'. -/
def nodeBeginsUptoCard : Claim7 := { stood := { row := nodeBeginsUptoRow, standIns := [], harness := (true, "25ecd2931196f7be3ac9830c06876b23806b68ff4f4fdf48abe0ed3d0d01ff32"), looks := true }, kinds := [], alts := [], laidByText := true, laidKinds := [.data, .data, .pinned], laidTests := true, laidLooks := .later }
def NodeBeginsUptoCardSaid : Prop := Claim7.holds Tryz.pinned (.plain (OpenSpec.upto nodeBeginsSpec)) nodeBeginsUptoCard

/-- THE SECOND FORM's CARD OF 'changeoverlaw40.NodeKeeps'. -/
def nodeKeepsUptoCard : Claim7 := { stood := { row := nodeKeepsUptoRow, standIns := [], harness := (true, "25ecd2931196f7be3ac9830c06876b23806b68ff4f4fdf48abe0ed3d0d01ff32"), looks := true }, kinds := [], alts := [], laidByText := true, laidKinds := [.data, .data, .pinned], laidTests := true, laidLooks := .later }
def NodeKeepsUptoCardSaid : Prop := Claim7.holds Tryz.pinned (.plain (OpenSpec.upto nodeKeepsSpec)) nodeKeepsUptoCard
end Rows
end Go.Proofs.YtakinpjaklgacaaGreatDoor
