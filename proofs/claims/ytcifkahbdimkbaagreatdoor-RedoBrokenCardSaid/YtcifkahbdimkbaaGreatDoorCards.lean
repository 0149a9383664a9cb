/-
  DERIVED. GIVEN WITH THE SEED: THE CARDS: each row of YtcifkahbdimkbaaGreatDoorRows.lean that lists a variable, with what it lists TIED to the program's text (the seventh form; the later family's looks); each row that meets fmt, with fmt's text TOLD by the authors' own Lean function (tested against real Go, not proved from fmt's source: count such statements apart). THE CARD IS WHAT COUNTS. Prove the row's statement (the work); the ties are given (YtcifkahbdimkbaaGreatDoorTie.lean); close each card by the builder's one call (the guide's Derived/Test/ToyasCard.lean, 'card_holds'). Laid BY PROGRAM, IN A SANDBOX (cutbox-door.mjs). By AI agents, Wed Nov 11 2026. No macro, syntax, notation, axiom, sorry.
-/
import Derived.Test.YtcifkahbdimkbaaGreatDoorRows
import GoSem.ClaimSeven
namespace Go.Proofs.YtcifkahbdimkbaaGreatDoor
namespace Rows

/-- THE TIED CARD OF 'justiciarlaw20.RedoEncodes'. -/
def redoEncodesCard : Claim7 := { stood := { row := redoEncodesRow, standIns := [], harness := (true, "6f147c071caeeedcc5f197dac0be4fc8be5da4fb5854b4a910e4f16a75271429"), looks := false }, kinds := [], alts := [], laidByText := true, laidKinds := [.data, .data, .data, .data, .listed, .data, .data, .pinned], laidTests := true, laidLooks := .later }
def RedoEncodesCardSaid : Prop := Claim7.holds Tryz.pinned (.plain (OpenSpec.ofChange redoEncodesSpec)) redoEncodesCard

/-- THE TIED CARD OF 'justiciarlaw20.RedoDecodes'. -/
def redoDecodesCard : Claim7 := { stood := { row := redoDecodesRow, standIns := [], harness := (true, "6f147c071caeeedcc5f197dac0be4fc8be5da4fb5854b4a910e4f16a75271429"), looks := false }, kinds := [], alts := [], laidByText := true, laidKinds := [.data, .data, .data, .data, .listed, .data, .data, .pinned], laidTests := true, laidLooks := .later }
def RedoDecodesCardSaid : Prop := Claim7.holds Tryz.pinned (.plain (OpenSpec.ofChange redoDecodesSpec)) redoDecodesCard

/-- THE TIED CARD OF 'justiciarlaw20.RedoBroken'. -/
def redoBrokenCard : Claim7 := { stood := { row := redoBrokenRow, standIns := [], harness := (true, "6f147c071caeeedcc5f197dac0be4fc8be5da4fb5854b4a910e4f16a75271429"), looks := false }, kinds := [], alts := [], laidByText := true, laidKinds := [.data, .data, .data, .data, .listed, .data, .data, .pinned], laidTests := true, laidLooks := .later }
def RedoBrokenCardSaid : Prop := Claim7.holds Tryz.pinned (.plain (OpenSpec.ofChange redoBrokenSpec)) redoBrokenCard

/-- THE TIED CARD OF 'justiciarlaw20.RedoWrites'. -/
def redoWritesCard : Claim7 := { stood := { row := redoWritesRow, standIns := [], harness := (true, "6f147c071caeeedcc5f197dac0be4fc8be5da4fb5854b4a910e4f16a75271429"), looks := false }, kinds := [], alts := [], laidByText := true, laidKinds := [.data, .data, .data, .data, .listed, .data, .data, .pinned], laidTests := true, laidLooks := .later }
def RedoWritesCardSaid : Prop := Claim7.holds Tryz.pinned (.plain (OpenSpec.ofChange redoWritesSpec)) redoWritesCard

/-- THE TIED CARD OF 'justiciarlaw20.RedoBack'. -/
def redoBackCard : Claim7 := { stood := { row := redoBackRow, standIns := [], harness := (true, "6f147c071caeeedcc5f197dac0be4fc8be5da4fb5854b4a910e4f16a75271429"), looks := false }, kinds := [], alts := [], laidByText := true, laidKinds := [.data, .data, .data, .data, .listed, .data, .data, .pinned], laidTests := true, laidLooks := .later }
def RedoBackCardSaid : Prop := Claim7.holds Tryz.pinned (.plain (OpenSpec.ofChange redoBackSpec)) redoBackCard

/-- THE TIED CARD OF 'justiciarlaw20.RedoCuts'. -/
def redoCutsCard : Claim7 := { stood := { row := redoCutsRow, standIns := [], harness := (true, "6f147c071caeeedcc5f197dac0be4fc8be5da4fb5854b4a910e4f16a75271429"), looks := false }, kinds := [], alts := [], laidByText := true, laidKinds := [.data, .data, .data, .data, .listed, .data, .data, .pinned], laidTests := true, laidLooks := .later }
def RedoCutsCardSaid : Prop := Claim7.holds Tryz.pinned (.plain (OpenSpec.ofChange redoCutsSpec)) redoCutsCard

/-- THE TIED CARD OF 'justiciarlaw20.RedoParts'. -/
def redoPartsCard : Claim7 := { stood := { row := redoPartsRow, standIns := [], harness := (true, "6f147c071caeeedcc5f197dac0be4fc8be5da4fb5854b4a910e4f16a75271429"), looks := false }, kinds := [], alts := [], laidByText := true, laidKinds := [.data, .data, .data, .data, .listed, .data, .data, .pinned], laidTests := true, laidLooks := .later }
def RedoPartsCardSaid : Prop := Claim7.holds Tryz.pinned (.plain (OpenSpec.ofChange redoPartsSpec)) redoPartsCard

/-- THE SECOND FORM's CARD OF 'justiciarlaw20.RedoEncodes'. -/
def redoEncodesUptoCard : Claim7 := { stood := { row := redoEncodesUptoRow, standIns := [], harness := (true, "6f147c071caeeedcc5f197dac0be4fc8be5da4fb5854b4a910e4f16a75271429"), looks := false }, kinds := [], alts := [], laidByText := true, laidKinds := [.data, .data, .data, .data, .listed, .data, .data, .pinned], laidTests := true, laidLooks := .later }
def RedoEncodesUptoCardSaid : Prop := Claim7.holds Tryz.pinned (.plain (OpenSpec.upto redoEncodesSpec)) redoEncodesUptoCard

/-- THE SECOND FORM's CARD OF 'justiciarlaw20.RedoDecodes'. -/
def redoDecodesUptoCard : Claim7 := { stood := { row := redoDecodesUptoRow, standIns := [], harness := (true, "6f147c071caeeedcc5f197dac0be4fc8be5da4fb5854b4a910e4f16a75271429"), looks := false }, kinds := [], alts := [], laidByText := true, laidKinds := [.data, .data, .data, .data, .listed, .data, .data, .pinned], laidTests := true, laidLooks := .later }
def RedoDecodesUptoCardSaid : Prop := Claim7.holds Tryz.pinned (.plain (OpenSpec.upto redoDecodesSpec)) redoDecodesUptoCard

/-- THE SECOND FORM's CARD OF 'justiciarlaw20.RedoBroken'. -/
def redoBrokenUptoCard : Claim7 := { stood := { row := redoBrokenUptoRow, standIns := [], harness := (true, "6f147c071caeeedcc5f197dac0be4fc8be5da4fb5854b4a910e4f16a75271429"), looks := false }, kinds := [], alts := [], laidByText := true, laidKinds := [.data, .data, .data, .data, .listed, .data, .data, .pinned], laidTests := true, laidLooks := .later }
def RedoBrokenUptoCardSaid : Prop := Claim7.holds Tryz.pinned (.plain (OpenSpec.upto redoBrokenSpec)) redoBrokenUptoCard

/-- THE SECOND FORM's CARD OF 'justiciarlaw20.RedoWrites'. -/
def redoWritesUptoCard : Claim7 := { stood := { row := redoWritesUptoRow, standIns := [], harness := (true, "6f147c071caeeedcc5f197dac0be4fc8be5da4fb5854b4a910e4f16a75271429"), looks := false }, kinds := [], alts := [], laidByText := true, laidKinds := [.data, .data, .data, .data, .listed, .data, .data, .pinned], laidTests := true, laidLooks := .later }
def RedoWritesUptoCardSaid : Prop := Claim7.holds Tryz.pinned (.plain (OpenSpec.upto redoWritesSpec)) redoWritesUptoCard

/-- THE SECOND FORM's CARD OF 'justiciarlaw20.RedoBack'. -/
def redoBackUptoCard : Claim7 := { stood := { row := redoBackUptoRow, standIns := [], harness := (true, "6f147c071caeeedcc5f197dac0be4fc8be5da4fb5854b4a910e4f16a75271429"), looks := false }, kinds := [], alts := [], laidByText := true, laidKinds := [.data, .data, .data, .data, .listed, .data, .data, .pinned], laidTests := true, laidLooks := .later }
def RedoBackUptoCardSaid : Prop := Claim7.holds Tryz.pinned (.plain (OpenSpec.upto redoBackSpec)) redoBackUptoCard

/-- THE SECOND FORM's CARD OF 'justiciarlaw20.RedoCuts'. -/
def redoCutsUptoCard : Claim7 := { stood := { row := redoCutsUptoRow, standIns := [], harness := (true, "6f147c071caeeedcc5f197dac0be4fc8be5da4fb5854b4a910e4f16a75271429"), looks := false }, kinds := [], alts := [], laidByText := true, laidKinds := [.data, .data, .data, .data, .listed, .data, .data, .pinned], laidTests := true, laidLooks := .later }
def RedoCutsUptoCardSaid : Prop := Claim7.holds Tryz.pinned (.plain (OpenSpec.upto redoCutsSpec)) redoCutsUptoCard

/-- THE SECOND FORM's CARD OF 'justiciarlaw20.RedoParts'. -/
def redoPartsUptoCard : Claim7 := { stood := { row := redoPartsUptoRow, standIns := [], harness := (true, "6f147c071caeeedcc5f197dac0be4fc8be5da4fb5854b4a910e4f16a75271429"), looks := false }, kinds := [], alts := [], laidByText := true, laidKinds := [.data, .data, .data, .data, .listed, .data, .data, .pinned], laidTests := true, laidLooks := .later }
def RedoPartsUptoCardSaid : Prop := Claim7.holds Tryz.pinned (.plain (OpenSpec.upto redoPartsSpec)) redoPartsUptoCard
end Rows
end Go.Proofs.YtcifkahbdimkbaaGreatDoor
