/-
  DERIVED. GIVEN WITH THE SEED: THE CARDS: each row of YtaindcicloapfaaGreatDoorRows.lean that lists a variable, with what it lists TIED to the program's text (the seventh form; the later family's looks); each row that meets fmt, with fmt's text TOLD by the authors' own Lean function (tested against real Go, not proved from fmt's source: count such statements apart). THE CARD IS WHAT COUNTS. Prove the row's statement (the work); the ties are given (YtaindcicloapfaaGreatDoorTie.lean); close each card by the builder's one call (the guide's Derived/Test/ToyasCard.lean, 'card_holds'). Laid BY PROGRAM, IN A SANDBOX (cutbox-door.mjs). By AI agents, Wed Nov 11 2026. No macro, syntax, notation, axiom, sorry.
-/
import Derived.Test.YtaindcicloapfaaGreatDoorRows
import GoSem.ClaimSeven
namespace Go.Proofs.YtaindcicloapfaaGreatDoor
namespace Rows

/-- THE TIED CARD OF 'wirelaw2.EndPlays'. -/
def endPlaysCard : Claim7 := { stood := { row := endPlaysRow, standIns := [], harness := (true, "07e684472fe835ae5eaf24c288af31959b0e09bc1ffecb8e55d39abc88be29b0"), looks := true }, kinds := [], alts := [], laidByText := true, laidKinds := [.handle, .data, .data], laidTests := true, laidLooks := .later }
def EndPlaysCardSaid : Prop := Claim7.holds Tryz.pinned (.plain (OpenSpec.ofChange endPlaysSpec)) endPlaysCard

/-- THE TIED CARD OF 'wirelaw2.TalkPrefix'. -/
def talkPrefixCard : Claim7 := { stood := { row := talkPrefixRow, standIns := [], harness := (true, "07e684472fe835ae5eaf24c288af31959b0e09bc1ffecb8e55d39abc88be29b0"), looks := true }, kinds := [], alts := [], laidByText := true, laidKinds := [.handle, .data, .data], laidTests := true, laidLooks := .later }
def TalkPrefixCardSaid : Prop := Claim7.holds Tryz.pinned (.plain (OpenSpec.ofChange talkPrefixSpec)) talkPrefixCard

/-- THE TIED CARD OF 'wirelaw2.TalkPlays'. -/
def talkPlaysCard : Claim7 := { stood := { row := talkPlaysRow, standIns := [], harness := (true, "07e684472fe835ae5eaf24c288af31959b0e09bc1ffecb8e55d39abc88be29b0"), looks := true }, kinds := [], alts := [], laidByText := true, laidKinds := [.handle, .data, .data], laidTests := true, laidLooks := .later }
def TalkPlaysCardSaid : Prop := Claim7.holds Tryz.pinned (.plain (OpenSpec.ofChange talkPlaysSpec)) talkPlaysCard

/-- THE TIED CARD OF 'wiretop.TopLossy'. -/
def topLossyCard : Claim7 := { stood := { row := topLossyRow, standIns := [], harness := (true, "07e684472fe835ae5eaf24c288af31959b0e09bc1ffecb8e55d39abc88be29b0"), looks := true }, kinds := [], alts := [], laidByText := true, laidKinds := [.handle, .data, .data], laidTests := true, laidLooks := .later }
def TopLossyCardSaid : Prop := Claim7.holds Tryz.pinned (.plain (OpenSpec.ofChange topLossySpec)) topLossyCard

/-- THE TIED CARD OF 'wiretop.TopFlight'. -/
def topFlightCard : Claim7 := { stood := { row := topFlightRow, standIns := [], harness := (true, "07e684472fe835ae5eaf24c288af31959b0e09bc1ffecb8e55d39abc88be29b0"), looks := true }, kinds := [], alts := [], laidByText := true, laidKinds := [.data, .data], laidTests := true, laidLooks := .later }
def TopFlightCardSaid : Prop := Claim7.holds Tryz.pinned (.plain (OpenSpec.ofChange topFlightSpec)) topFlightCard

/-- THE TIED CARD OF 'wiretop.TopSeen'. -/
def topSeenCard : Claim7 := { stood := { row := topSeenRow, standIns := [], harness := (true, "07e684472fe835ae5eaf24c288af31959b0e09bc1ffecb8e55d39abc88be29b0"), looks := true }, kinds := [], alts := [], laidByText := true, laidKinds := [.data, .data, .data, .sentinel, .sentinel, .data, .data], laidTests := true, laidLooks := .later }
def TopSeenCardSaid : Prop := Claim7.holds Tryz.pinned (.plain (OpenSpec.ofChange topSeenSpec)) topSeenCard

/-- THE SECOND FORM's CARD OF 'wirelaw2.EndPlays'. -/
def endPlaysUptoCard : Claim7 := { stood := { row := endPlaysUptoRow, standIns := [], harness := (true, "07e684472fe835ae5eaf24c288af31959b0e09bc1ffecb8e55d39abc88be29b0"), looks := true }, kinds := [], alts := [], laidByText := true, laidKinds := [.handle, .data, .data], laidTests := true, laidLooks := .later }
def EndPlaysUptoCardSaid : Prop := Claim7.holds Tryz.pinned (.plain (OpenSpec.upto endPlaysSpec)) endPlaysUptoCard

/-- THE SECOND FORM's CARD OF 'wirelaw2.TalkPrefix'. -/
def talkPrefixUptoCard : Claim7 := { stood := { row := talkPrefixUptoRow, standIns := [], harness := (true, "07e684472fe835ae5eaf24c288af31959b0e09bc1ffecb8e55d39abc88be29b0"), looks := true }, kinds := [], alts := [], laidByText := true, laidKinds := [.handle, .data, .data], laidTests := true, laidLooks := .later }
def TalkPrefixUptoCardSaid : Prop := Claim7.holds Tryz.pinned (.plain (OpenSpec.upto talkPrefixSpec)) talkPrefixUptoCard

/-- THE SECOND FORM's CARD OF 'wirelaw2.TalkPlays'. -/
def talkPlaysUptoCard : Claim7 := { stood := { row := talkPlaysUptoRow, standIns := [], harness := (true, "07e684472fe835ae5eaf24c288af31959b0e09bc1ffecb8e55d39abc88be29b0"), looks := true }, kinds := [], alts := [], laidByText := true, laidKinds := [.handle, .data, .data], laidTests := true, laidLooks := .later }
def TalkPlaysUptoCardSaid : Prop := Claim7.holds Tryz.pinned (.plain (OpenSpec.upto talkPlaysSpec)) talkPlaysUptoCard

/-- THE SECOND FORM's CARD OF 'wiretop.TopLossy'. -/
def topLossyUptoCard : Claim7 := { stood := { row := topLossyUptoRow, standIns := [], harness := (true, "07e684472fe835ae5eaf24c288af31959b0e09bc1ffecb8e55d39abc88be29b0"), looks := true }, kinds := [], alts := [], laidByText := true, laidKinds := [.handle, .data, .data], laidTests := true, laidLooks := .later }
def TopLossyUptoCardSaid : Prop := Claim7.holds Tryz.pinned (.plain (OpenSpec.upto topLossySpec)) topLossyUptoCard

/-- THE SECOND FORM's CARD OF 'wiretop.TopFlight'. -/
def topFlightUptoCard : Claim7 := { stood := { row := topFlightUptoRow, standIns := [], harness := (true, "07e684472fe835ae5eaf24c288af31959b0e09bc1ffecb8e55d39abc88be29b0"), looks := true }, kinds := [], alts := [], laidByText := true, laidKinds := [.data, .data], laidTests := true, laidLooks := .later }
def TopFlightUptoCardSaid : Prop := Claim7.holds Tryz.pinned (.plain (OpenSpec.upto topFlightSpec)) topFlightUptoCard

/-- THE SECOND FORM's CARD OF 'wiretop.TopSeen'. -/
def topSeenUptoCard : Claim7 := { stood := { row := topSeenUptoRow, standIns := [], harness := (true, "07e684472fe835ae5eaf24c288af31959b0e09bc1ffecb8e55d39abc88be29b0"), looks := true }, kinds := [], alts := [], laidByText := true, laidKinds := [.data, .data, .data, .sentinel, .sentinel, .data, .data], laidTests := true, laidLooks := .later }
def TopSeenUptoCardSaid : Prop := Claim7.holds Tryz.pinned (.plain (OpenSpec.upto topSeenSpec)) topSeenUptoCard
end Rows
end Go.Proofs.YtaindcicloapfaaGreatDoor
