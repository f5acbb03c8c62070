/-
  DERIVED. GIVEN WITH THE SEED: THE CARDS: each row of YtnedikjioliodaaGreatDoorRows.lean that lists a variable, with what it lists TIED to the program's text (the seventh form; the later family's looks); each row that meets fmt, with fmt's text TOLD by the authors' own Lean function (tested against real Go, not proved from fmt's source: count such statements apart). THE CARD IS WHAT COUNTS. Prove the row's statement (the work); the ties are given (YtnedikjioliodaaGreatDoorTie.lean); close each card by the builder's one call (the guide's Derived/Test/ToyasCard.lean, 'card_holds'). Laid BY PROGRAM, IN A SANDBOX (cutbox-door.mjs). By AI agents, Wed Nov 11 2026. No macro, syntax, notation, axiom, sorry.
-/
import Derived.Test.YtnedikjioliodaaGreatDoorRows
import GoSem.ClaimSeven
namespace Go.Proofs.YtnedikjioliodaaGreatDoor
namespace Rows

/-- THE TIED CARD OF 'wheelhouselaw39.ServerHalts'. -/
def serverHaltsCard : Claim7 := { stood := { row := serverHaltsRow, standIns := [], harness := (true, "f7d06d318e1acf766b5c63629f3843cbd928e947fdfde66514b3c257c19b7234"), looks := true }, kinds := [], alts := [], laidByText := true, laidKinds := [.data, .handle, .pinned], laidTests := true, laidLooks := .later }
def ServerHaltsCardSaid : Prop := Claim7.holds Tryz.pinned (.plain (OpenSpec.ofChange serverHaltsSpec)) serverHaltsCard

/-- THE TIED CARD OF 'wheelhouselaw39.ServerNone'. -/
def serverNoneCard : Claim7 := { stood := { row := serverNoneRow, standIns := [], harness := (true, "f7d06d318e1acf766b5c63629f3843cbd928e947fdfde66514b3c257c19b7234"), looks := true }, kinds := [], alts := [], laidByText := true, laidKinds := [.data, .handle, .pinned], laidTests := true, laidLooks := .later }
def ServerNoneCardSaid : Prop := Claim7.holds Tryz.pinned (.plain (OpenSpec.ofChange serverNoneSpec)) serverNoneCard

/-- THE SECOND FORM's CARD OF 'wheelhouselaw39.ServerHalts'. -/
def serverHaltsUptoCard : Claim7 := { stood := { row := serverHaltsUptoRow, standIns := [], harness := (true, "f7d06d318e1acf766b5c63629f3843cbd928e947fdfde66514b3c257c19b7234"), looks := true }, kinds := [], alts := [], laidByText := true, laidKinds := [.data, .handle, .pinned], laidTests := true, laidLooks := .later }
def ServerHaltsUptoCardSaid : Prop := Claim7.holds Tryz.pinned (.plain (OpenSpec.upto serverHaltsSpec)) serverHaltsUptoCard

/-- THE SECOND FORM's CARD OF 'wheelhouselaw39.ServerNone'. -/
def serverNoneUptoCard : Claim7 := { stood := { row := serverNoneUptoRow, standIns := [], harness := (true, "f7d06d318e1acf766b5c63629f3843cbd928e947fdfde66514b3c257c19b7234"), looks := true }, kinds := [], alts := [], laidByText := true, laidKinds := [.data, .handle, .pinned], laidTests := true, laidLooks := .later }
def ServerNoneUptoCardSaid : Prop := Claim7.holds Tryz.pinned (.plain (OpenSpec.upto serverNoneSpec)) serverNoneUptoCard
end Rows
end Go.Proofs.YtnedikjioliodaaGreatDoor
