/-
  DERIVED. GIVEN WITH THE SEED: THE CARDS: each row of YthnolkbolmbkdaaDoorRows.lean that lists a variable, with what it lists TIED to the program's text (the seventh form; the later family's looks); each row that meets fmt, with fmt's text TOLD by the authors' own Lean function (tested against real Go, not proved from fmt's source: count such statements apart). THE CARD IS WHAT COUNTS. Prove the row's statement (the work); the ties are given (YthnolkbolmbkdaaDoorTie.lean); close each card by the builder's one call (the guide's Derived/Test/ToyasCard.lean, 'card_holds'). Laid BY PROGRAM, IN A SANDBOX (cutbox-door.mjs). By AI agents, Wed Nov 11 2026. No macro, syntax, notation, axiom, sorry.
-/
import Derived.Test.YthnolkbolmbkdaaDoorRows
import GoSem.ClaimSeven
namespace Go.Proofs.YthnolkbolmbkdaaDoor
namespace Rows

/-- THE TIED CARD OF 'wirelaw4.MoveNone'. -/
def moveNoneCard : Claim7 := { stood := { row := moveNoneRow, standIns := [], harness := (true, "de89f5c11ae95acda3bfd6b517d26a22d78b8c6229a3554f0bb28ba54427cde1"), looks := true }, kinds := [], alts := [], laidByText := true, laidKinds := [.handle], laidTests := true, laidLooks := .later }
def MoveNoneCardSaid : Prop := Claim7.holds Tryd.pinned (.plain (OpenSpec.ofChange moveNoneSpec)) moveNoneCard

/-- THE TIED CARD OF 'wirelaw2.MovePlays'. -/
def movePlaysCard : Claim7 := { stood := { row := movePlaysRow, standIns := [], harness := (true, "de89f5c11ae95acda3bfd6b517d26a22d78b8c6229a3554f0bb28ba54427cde1"), looks := true }, kinds := [], alts := [], laidByText := true, laidKinds := [.handle], laidTests := true, laidLooks := .later }
def MovePlaysCardSaid : Prop := Claim7.holds Tryd.pinned (.plain (OpenSpec.ofChange movePlaysSpec)) movePlaysCard

/-- THE TIED CARD OF 'wirelaw1.AckBack'. -/
def ackBackCard : Claim7 := { stood := { row := ackBackRow, standIns := [], harness := (true, "de89f5c11ae95acda3bfd6b517d26a22d78b8c6229a3554f0bb28ba54427cde1"), looks := true }, kinds := [], alts := [], laidByText := true, laidKinds := [.data], laidTests := true, laidLooks := .later }
def AckBackCardSaid : Prop := Claim7.holds Tryd.pinned (.plain (OpenSpec.ofChange ackBackSpec)) ackBackCard

/-- THE TIED CARD OF 'wirelaw4.AckOne'. -/
def ackOneCard : Claim7 := { stood := { row := ackOneRow, standIns := [], harness := (true, "de89f5c11ae95acda3bfd6b517d26a22d78b8c6229a3554f0bb28ba54427cde1"), looks := true }, kinds := [], alts := [], laidByText := true, laidKinds := [.data], laidTests := true, laidLooks := .later }
def AckOneCardSaid : Prop := Claim7.holds Tryd.pinned (.plain (OpenSpec.ofChange ackOneSpec)) ackOneCard

/-- THE TIED CARD OF 'wirelaw1.AckTells'. -/
def ackTellsCard : Claim7 := { stood := { row := ackTellsRow, standIns := [], harness := (true, "de89f5c11ae95acda3bfd6b517d26a22d78b8c6229a3554f0bb28ba54427cde1"), looks := true }, kinds := [], alts := [], laidByText := true, laidKinds := [.handle, .data], laidTests := true, laidLooks := .later }
def AckTellsCardSaid : Prop := Claim7.holds Tryd.pinned (.plain (OpenSpec.ofChange ackTellsSpec)) ackTellsCard

/-- THE TIED CARD OF 'wirelaw4.FramePing'. -/
def framePingCard : Claim7 := { stood := { row := framePingRow, standIns := [], harness := (true, "de89f5c11ae95acda3bfd6b517d26a22d78b8c6229a3554f0bb28ba54427cde1"), looks := true }, kinds := [], alts := [], laidByText := true, laidKinds := [.data, .data], laidTests := true, laidLooks := .later }
def FramePingCardSaid : Prop := Claim7.holds Tryd.pinned (.plain (OpenSpec.ofChange framePingSpec)) framePingCard

/-- THE TIED CARD OF 'wirelaw2.FrameBack'. -/
def frameBackCard : Claim7 := { stood := { row := frameBackRow, standIns := [], harness := (true, "de89f5c11ae95acda3bfd6b517d26a22d78b8c6229a3554f0bb28ba54427cde1"), looks := true }, kinds := [], alts := [], laidByText := true, laidKinds := [.data, .data], laidTests := true, laidLooks := .later }
def FrameBackCardSaid : Prop := Claim7.holds Tryd.pinned (.plain (OpenSpec.ofChange frameBackSpec)) frameBackCard

/-- THE TIED CARD OF 'wirelaw2.FrameTells'. -/
def frameTellsCard : Claim7 := { stood := { row := frameTellsRow, standIns := [], harness := (true, "de89f5c11ae95acda3bfd6b517d26a22d78b8c6229a3554f0bb28ba54427cde1"), looks := true }, kinds := [], alts := [], laidByText := true, laidKinds := [.handle, .data, .data], laidTests := true, laidLooks := .later }
def FrameTellsCardSaid : Prop := Claim7.holds Tryd.pinned (.plain (OpenSpec.ofChange frameTellsSpec)) frameTellsCard

/-- THE TIED CARD OF 'wirelaw4.PacketPing'. -/
def packetPingCard : Claim7 := { stood := { row := packetPingRow, standIns := [], harness := (true, "de89f5c11ae95acda3bfd6b517d26a22d78b8c6229a3554f0bb28ba54427cde1"), looks := true }, kinds := [], alts := [], laidByText := true, laidKinds := [.handle, .data, .data], laidTests := true, laidLooks := .later }
def PacketPingCardSaid : Prop := Claim7.holds Tryd.pinned (.plain (OpenSpec.ofChange packetPingSpec)) packetPingCard

/-- THE TIED CARD OF 'wirelaw2.PacketBack'. -/
def packetBackCard : Claim7 := { stood := { row := packetBackRow, standIns := [], harness := (true, "de89f5c11ae95acda3bfd6b517d26a22d78b8c6229a3554f0bb28ba54427cde1"), looks := true }, kinds := [], alts := [], laidByText := true, laidKinds := [.data, .data], laidTests := true, laidLooks := .later }
def PacketBackCardSaid : Prop := Claim7.holds Tryd.pinned (.plain (OpenSpec.ofChange packetBackSpec)) packetBackCard

/-- THE TIED CARD OF 'wirelaw2.PacketTells'. -/
def packetTellsCard : Claim7 := { stood := { row := packetTellsRow, standIns := [], harness := (true, "de89f5c11ae95acda3bfd6b517d26a22d78b8c6229a3554f0bb28ba54427cde1"), looks := true }, kinds := [], alts := [], laidByText := true, laidKinds := [.handle, .data, .data], laidTests := true, laidLooks := .later }
def PacketTellsCardSaid : Prop := Claim7.holds Tryd.pinned (.plain (OpenSpec.ofChange packetTellsSpec)) packetTellsCard

/-- THE SECOND FORM's CARD OF 'wirelaw4.MoveNone'. -/
def moveNoneUptoCard : Claim7 := { stood := { row := moveNoneUptoRow, standIns := [], harness := (true, "de89f5c11ae95acda3bfd6b517d26a22d78b8c6229a3554f0bb28ba54427cde1"), looks := true }, kinds := [], alts := [], laidByText := true, laidKinds := [.handle], laidTests := true, laidLooks := .later }
def MoveNoneUptoCardSaid : Prop := Claim7.holds Tryd.pinned (.plain (OpenSpec.upto moveNoneSpec)) moveNoneUptoCard

/-- THE SECOND FORM's CARD OF 'wirelaw2.MovePlays'. -/
def movePlaysUptoCard : Claim7 := { stood := { row := movePlaysUptoRow, standIns := [], harness := (true, "de89f5c11ae95acda3bfd6b517d26a22d78b8c6229a3554f0bb28ba54427cde1"), looks := true }, kinds := [], alts := [], laidByText := true, laidKinds := [.handle], laidTests := true, laidLooks := .later }
def MovePlaysUptoCardSaid : Prop := Claim7.holds Tryd.pinned (.plain (OpenSpec.upto movePlaysSpec)) movePlaysUptoCard

/-- THE SECOND FORM's CARD OF 'wirelaw1.AckBack'. -/
def ackBackUptoCard : Claim7 := { stood := { row := ackBackUptoRow, standIns := [], harness := (true, "de89f5c11ae95acda3bfd6b517d26a22d78b8c6229a3554f0bb28ba54427cde1"), looks := true }, kinds := [], alts := [], laidByText := true, laidKinds := [.data], laidTests := true, laidLooks := .later }
def AckBackUptoCardSaid : Prop := Claim7.holds Tryd.pinned (.plain (OpenSpec.upto ackBackSpec)) ackBackUptoCard

/-- THE SECOND FORM's CARD OF 'wirelaw4.AckOne'. -/
def ackOneUptoCard : Claim7 := { stood := { row := ackOneUptoRow, standIns := [], harness := (true, "de89f5c11ae95acda3bfd6b517d26a22d78b8c6229a3554f0bb28ba54427cde1"), looks := true }, kinds := [], alts := [], laidByText := true, laidKinds := [.data], laidTests := true, laidLooks := .later }
def AckOneUptoCardSaid : Prop := Claim7.holds Tryd.pinned (.plain (OpenSpec.upto ackOneSpec)) ackOneUptoCard

/-- THE SECOND FORM's CARD OF 'wirelaw1.AckTells'. -/
def ackTellsUptoCard : Claim7 := { stood := { row := ackTellsUptoRow, standIns := [], harness := (true, "de89f5c11ae95acda3bfd6b517d26a22d78b8c6229a3554f0bb28ba54427cde1"), looks := true }, kinds := [], alts := [], laidByText := true, laidKinds := [.handle, .data], laidTests := true, laidLooks := .later }
def AckTellsUptoCardSaid : Prop := Claim7.holds Tryd.pinned (.plain (OpenSpec.upto ackTellsSpec)) ackTellsUptoCard

/-- THE SECOND FORM's CARD OF 'wirelaw4.FramePing'. -/
def framePingUptoCard : Claim7 := { stood := { row := framePingUptoRow, standIns := [], harness := (true, "de89f5c11ae95acda3bfd6b517d26a22d78b8c6229a3554f0bb28ba54427cde1"), looks := true }, kinds := [], alts := [], laidByText := true, laidKinds := [.data, .data], laidTests := true, laidLooks := .later }
def FramePingUptoCardSaid : Prop := Claim7.holds Tryd.pinned (.plain (OpenSpec.upto framePingSpec)) framePingUptoCard

/-- THE SECOND FORM's CARD OF 'wirelaw2.FrameBack'. -/
def frameBackUptoCard : Claim7 := { stood := { row := frameBackUptoRow, standIns := [], harness := (true, "de89f5c11ae95acda3bfd6b517d26a22d78b8c6229a3554f0bb28ba54427cde1"), looks := true }, kinds := [], alts := [], laidByText := true, laidKinds := [.data, .data], laidTests := true, laidLooks := .later }
def FrameBackUptoCardSaid : Prop := Claim7.holds Tryd.pinned (.plain (OpenSpec.upto frameBackSpec)) frameBackUptoCard

/-- THE SECOND FORM's CARD OF 'wirelaw2.FrameTells'. -/
def frameTellsUptoCard : Claim7 := { stood := { row := frameTellsUptoRow, standIns := [], harness := (true, "de89f5c11ae95acda3bfd6b517d26a22d78b8c6229a3554f0bb28ba54427cde1"), looks := true }, kinds := [], alts := [], laidByText := true, laidKinds := [.handle, .data, .data], laidTests := true, laidLooks := .later }
def FrameTellsUptoCardSaid : Prop := Claim7.holds Tryd.pinned (.plain (OpenSpec.upto frameTellsSpec)) frameTellsUptoCard

/-- THE SECOND FORM's CARD OF 'wirelaw4.PacketPing'. -/
def packetPingUptoCard : Claim7 := { stood := { row := packetPingUptoRow, standIns := [], harness := (true, "de89f5c11ae95acda3bfd6b517d26a22d78b8c6229a3554f0bb28ba54427cde1"), looks := true }, kinds := [], alts := [], laidByText := true, laidKinds := [.handle, .data, .data], laidTests := true, laidLooks := .later }
def PacketPingUptoCardSaid : Prop := Claim7.holds Tryd.pinned (.plain (OpenSpec.upto packetPingSpec)) packetPingUptoCard

/-- THE SECOND FORM's CARD OF 'wirelaw2.PacketBack'. -/
def packetBackUptoCard : Claim7 := { stood := { row := packetBackUptoRow, standIns := [], harness := (true, "de89f5c11ae95acda3bfd6b517d26a22d78b8c6229a3554f0bb28ba54427cde1"), looks := true }, kinds := [], alts := [], laidByText := true, laidKinds := [.data, .data], laidTests := true, laidLooks := .later }
def PacketBackUptoCardSaid : Prop := Claim7.holds Tryd.pinned (.plain (OpenSpec.upto packetBackSpec)) packetBackUptoCard

/-- THE SECOND FORM's CARD OF 'wirelaw2.PacketTells'. -/
def packetTellsUptoCard : Claim7 := { stood := { row := packetTellsUptoRow, standIns := [], harness := (true, "de89f5c11ae95acda3bfd6b517d26a22d78b8c6229a3554f0bb28ba54427cde1"), looks := true }, kinds := [], alts := [], laidByText := true, laidKinds := [.handle, .data, .data], laidTests := true, laidLooks := .later }
def PacketTellsUptoCardSaid : Prop := Claim7.holds Tryd.pinned (.plain (OpenSpec.upto packetTellsSpec)) packetTellsUptoCard
end Rows
end Go.Proofs.YthnolkbolmbkdaaDoor
