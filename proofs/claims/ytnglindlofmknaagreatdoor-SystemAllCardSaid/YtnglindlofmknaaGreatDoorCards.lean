/-
  DERIVED. GIVEN WITH THE SEED: THE CARDS: each row of YtnglindlofmknaaGreatDoorRows.lean that lists a variable, with what it lists TIED to the program's text (the seventh form; the later family's looks); each row that meets fmt, with fmt's text TOLD by the authors' own Lean function (tested against real Go, not proved from fmt's source: count such statements apart). THE CARD IS WHAT COUNTS. Prove the row's statement (the work); the ties are given (YtnglindlofmknaaGreatDoorTie.lean); close each card by the builder's one call (the guide's Derived/Test/ToyasCard.lean, 'card_holds'). Laid BY PROGRAM, IN A SANDBOX (cutbox-door.mjs). By AI agents, Wed Nov 11 2026. No macro, syntax, notation, axiom, sorry.
-/
import Derived.Test.YtnglindlofmknaaGreatDoorRows
import GoSem.ClaimSeven
namespace Go.Proofs.YtnglindlofmknaaGreatDoor
namespace Rows

/-- THE TIED CARD OF 'geyserlaw11.SystemAll'. -/
def systemAllCard : Claim7 := { stood := { row := systemAllRow, standIns := [], harness := (true, "823cf3d5eead15eed18e72a3c4c5c50b354c6fb49ac2dccf8dd446401eab17b5"), looks := false }, kinds := [], alts := [], laidByText := true, laidKinds := [.data], laidTests := true, laidLooks := .later }
def SystemAllCardSaid : Prop := Claim7.holds Tryz.pinned (.plain (OpenSpec.ofChange systemAllSpec)) systemAllCard

/-- THE TIED CARD OF 'geyserlaw11.SystemMiddles'. -/
def systemMiddlesCard : Claim7 := { stood := { row := systemMiddlesRow, standIns := [], harness := (true, "823cf3d5eead15eed18e72a3c4c5c50b354c6fb49ac2dccf8dd446401eab17b5"), looks := false }, kinds := [], alts := [], laidByText := true, laidKinds := [.data], laidTests := true, laidLooks := .later }
def SystemMiddlesCardSaid : Prop := Claim7.holds Tryz.pinned (.plain (OpenSpec.ofChange systemMiddlesSpec)) systemMiddlesCard

/-- THE TIED CARD OF 'geyserlaw11.SystemSums'. -/
def systemSumsCard : Claim7 := { stood := { row := systemSumsRow, standIns := [], harness := (true, "823cf3d5eead15eed18e72a3c4c5c50b354c6fb49ac2dccf8dd446401eab17b5"), looks := false }, kinds := [], alts := [], laidByText := true, laidKinds := [.data], laidTests := true, laidLooks := .later }
def SystemSumsCardSaid : Prop := Claim7.holds Tryz.pinned (.plain (OpenSpec.ofChange systemSumsSpec)) systemSumsCard

/-- THE TIED CARD OF 'geyserlaw13.DecodeBack'. -/
def decodeBackCard : Claim7 := { stood := { row := decodeBackRow, standIns := [], harness := (true, "823cf3d5eead15eed18e72a3c4c5c50b354c6fb49ac2dccf8dd446401eab17b5"), looks := false }, kinds := [], alts := [], laidByText := true, laidKinds := [.data], laidTests := true, laidLooks := .later }
def DecodeBackCardSaid : Prop := Claim7.holds Tryz.pinned (.plain (OpenSpec.ofChange decodeBackSpec)) decodeBackCard

/-- THE TIED CARD OF 'geyserlaw13.DecodeOrder'. -/
def decodeOrderCard : Claim7 := { stood := { row := decodeOrderRow, standIns := [], harness := (true, "823cf3d5eead15eed18e72a3c4c5c50b354c6fb49ac2dccf8dd446401eab17b5"), looks := false }, kinds := [], alts := [], laidByText := true, laidKinds := [.data], laidTests := true, laidLooks := .later }
def DecodeOrderCardSaid : Prop := Claim7.holds Tryz.pinned (.plain (OpenSpec.ofChange decodeOrderSpec)) decodeOrderCard

/-- THE TIED CARD OF 'geyserlaw13.DecodeKeeps'. -/
def decodeKeepsCard : Claim7 := { stood := { row := decodeKeepsRow, standIns := [], harness := (true, "823cf3d5eead15eed18e72a3c4c5c50b354c6fb49ac2dccf8dd446401eab17b5"), looks := false }, kinds := [], alts := [], laidByText := true, laidKinds := [.data], laidTests := true, laidLooks := .later }
def DecodeKeepsCardSaid : Prop := Claim7.holds Tryz.pinned (.plain (OpenSpec.ofChange decodeKeepsSpec)) decodeKeepsCard

/-- THE SECOND FORM's CARD OF 'geyserlaw11.SystemAll'. -/
def systemAllUptoCard : Claim7 := { stood := { row := systemAllUptoRow, standIns := [], harness := (true, "823cf3d5eead15eed18e72a3c4c5c50b354c6fb49ac2dccf8dd446401eab17b5"), looks := false }, kinds := [], alts := [], laidByText := true, laidKinds := [.data], laidTests := true, laidLooks := .later }
def SystemAllUptoCardSaid : Prop := Claim7.holds Tryz.pinned (.plain (OpenSpec.upto systemAllSpec)) systemAllUptoCard

/-- THE SECOND FORM's CARD OF 'geyserlaw11.SystemMiddles'. -/
def systemMiddlesUptoCard : Claim7 := { stood := { row := systemMiddlesUptoRow, standIns := [], harness := (true, "823cf3d5eead15eed18e72a3c4c5c50b354c6fb49ac2dccf8dd446401eab17b5"), looks := false }, kinds := [], alts := [], laidByText := true, laidKinds := [.data], laidTests := true, laidLooks := .later }
def SystemMiddlesUptoCardSaid : Prop := Claim7.holds Tryz.pinned (.plain (OpenSpec.upto systemMiddlesSpec)) systemMiddlesUptoCard

/-- THE SECOND FORM's CARD OF 'geyserlaw11.SystemSums'. -/
def systemSumsUptoCard : Claim7 := { stood := { row := systemSumsUptoRow, standIns := [], harness := (true, "823cf3d5eead15eed18e72a3c4c5c50b354c6fb49ac2dccf8dd446401eab17b5"), looks := false }, kinds := [], alts := [], laidByText := true, laidKinds := [.data], laidTests := true, laidLooks := .later }
def SystemSumsUptoCardSaid : Prop := Claim7.holds Tryz.pinned (.plain (OpenSpec.upto systemSumsSpec)) systemSumsUptoCard

/-- THE SECOND FORM's CARD OF 'geyserlaw13.DecodeBack'. -/
def decodeBackUptoCard : Claim7 := { stood := { row := decodeBackUptoRow, standIns := [], harness := (true, "823cf3d5eead15eed18e72a3c4c5c50b354c6fb49ac2dccf8dd446401eab17b5"), looks := false }, kinds := [], alts := [], laidByText := true, laidKinds := [.data], laidTests := true, laidLooks := .later }
def DecodeBackUptoCardSaid : Prop := Claim7.holds Tryz.pinned (.plain (OpenSpec.upto decodeBackSpec)) decodeBackUptoCard

/-- THE SECOND FORM's CARD OF 'geyserlaw13.DecodeOrder'. -/
def decodeOrderUptoCard : Claim7 := { stood := { row := decodeOrderUptoRow, standIns := [], harness := (true, "823cf3d5eead15eed18e72a3c4c5c50b354c6fb49ac2dccf8dd446401eab17b5"), looks := false }, kinds := [], alts := [], laidByText := true, laidKinds := [.data], laidTests := true, laidLooks := .later }
def DecodeOrderUptoCardSaid : Prop := Claim7.holds Tryz.pinned (.plain (OpenSpec.upto decodeOrderSpec)) decodeOrderUptoCard

/-- THE SECOND FORM's CARD OF 'geyserlaw13.DecodeKeeps'. -/
def decodeKeepsUptoCard : Claim7 := { stood := { row := decodeKeepsUptoRow, standIns := [], harness := (true, "823cf3d5eead15eed18e72a3c4c5c50b354c6fb49ac2dccf8dd446401eab17b5"), looks := false }, kinds := [], alts := [], laidByText := true, laidKinds := [.data], laidTests := true, laidLooks := .later }
def DecodeKeepsUptoCardSaid : Prop := Claim7.holds Tryz.pinned (.plain (OpenSpec.upto decodeKeepsSpec)) decodeKeepsUptoCard
end Rows
end Go.Proofs.YtnglindlofmknaaGreatDoor
