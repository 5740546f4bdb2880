/-
  DERIVED. GIVEN WITH THE SEED: THE CARDS: each row of YtaindcicloapfaaDoorRows.lean that lists a variable, with what it lists TIED to the program's text (the seventh form; the later family's looks); each row that meets fmt, with fmt's text TOLD by the authors' own Lean function (tested against real Go, not proved from fmt's source: count such statements apart). THE CARD IS WHAT COUNTS. Prove the row's statement (the work); the ties are given (YtaindcicloapfaaDoorTie.lean); close each card by the builder's one call (the guide's Derived/Test/ToyasCard.lean, 'card_holds'). Laid BY PROGRAM, IN A SANDBOX (cutbox-door.mjs). By AI agents, Wed Nov 11 2026. No macro, syntax, notation, axiom, sorry.
-/
import Derived.Test.YtaindcicloapfaaDoorRows
import GoSem.ClaimSeven
namespace Go.Proofs.YtaindcicloapfaaDoor
namespace Rows

/-- THE TIED CARD OF 'wirelaw4.EndSilent'. -/
def endSilentCard : Claim7 := { stood := { row := endSilentRow, standIns := [], harness := (true, "e37ef51ba31471294404285d4c57fb1e9b7ef20700de1d17658dd4db1b9169d9"), looks := false }, kinds := [], alts := [], laidByText := true, laidKinds := [.data, .data], laidTests := true, laidLooks := .later }
def EndSilentCardSaid : Prop := Claim7.holds Tryd.pinned (.plain (OpenSpec.ofChange endSilentSpec)) endSilentCard

/-- THE TIED CARD OF 'wirelaw2.EndTwice'. -/
def endTwiceCard : Claim7 := { stood := { row := endTwiceRow, standIns := [], harness := (true, "e37ef51ba31471294404285d4c57fb1e9b7ef20700de1d17658dd4db1b9169d9"), looks := false }, kinds := [], alts := [], laidByText := true, laidKinds := [.data, .data], laidTests := true, laidLooks := .later }
def EndTwiceCardSaid : Prop := Claim7.holds Tryd.pinned (.plain (OpenSpec.ofChange endTwiceSpec)) endTwiceCard

/-- THE TIED CARD OF 'wirelaw4.TalkSilent'. -/
def talkSilentCard : Claim7 := { stood := { row := talkSilentRow, standIns := [], harness := (true, "e37ef51ba31471294404285d4c57fb1e9b7ef20700de1d17658dd4db1b9169d9"), looks := false }, kinds := [], alts := [], laidByText := true, laidKinds := [.data, .data], laidTests := true, laidLooks := .later }
def TalkSilentCardSaid : Prop := Claim7.holds Tryd.pinned (.plain (OpenSpec.ofChange talkSilentSpec)) talkSilentCard

/-- THE TIED CARD OF 'wiretop.TopPaths'. -/
def topPathsCard : Claim7 := { stood := { row := topPathsRow, standIns := [], harness := (true, "e37ef51ba31471294404285d4c57fb1e9b7ef20700de1d17658dd4db1b9169d9"), looks := false }, kinds := [], alts := [], laidByText := true, laidKinds := [.data, .data], laidTests := true, laidLooks := .later }
def TopPathsCardSaid : Prop := Claim7.holds Tryd.pinned (.plain (OpenSpec.ofChange topPathsSpec)) topPathsCard

/-- THE SECOND FORM's CARD OF 'wirelaw4.EndSilent'. -/
def endSilentUptoCard : Claim7 := { stood := { row := endSilentUptoRow, standIns := [], harness := (true, "e37ef51ba31471294404285d4c57fb1e9b7ef20700de1d17658dd4db1b9169d9"), looks := false }, kinds := [], alts := [], laidByText := true, laidKinds := [.data, .data], laidTests := true, laidLooks := .later }
def EndSilentUptoCardSaid : Prop := Claim7.holds Tryd.pinned (.plain (OpenSpec.upto endSilentSpec)) endSilentUptoCard

/-- THE SECOND FORM's CARD OF 'wirelaw2.EndTwice'. -/
def endTwiceUptoCard : Claim7 := { stood := { row := endTwiceUptoRow, standIns := [], harness := (true, "e37ef51ba31471294404285d4c57fb1e9b7ef20700de1d17658dd4db1b9169d9"), looks := false }, kinds := [], alts := [], laidByText := true, laidKinds := [.data, .data], laidTests := true, laidLooks := .later }
def EndTwiceUptoCardSaid : Prop := Claim7.holds Tryd.pinned (.plain (OpenSpec.upto endTwiceSpec)) endTwiceUptoCard

/-- THE SECOND FORM's CARD OF 'wirelaw4.TalkSilent'. -/
def talkSilentUptoCard : Claim7 := { stood := { row := talkSilentUptoRow, standIns := [], harness := (true, "e37ef51ba31471294404285d4c57fb1e9b7ef20700de1d17658dd4db1b9169d9"), looks := false }, kinds := [], alts := [], laidByText := true, laidKinds := [.data, .data], laidTests := true, laidLooks := .later }
def TalkSilentUptoCardSaid : Prop := Claim7.holds Tryd.pinned (.plain (OpenSpec.upto talkSilentSpec)) talkSilentUptoCard

/-- THE SECOND FORM's CARD OF 'wiretop.TopPaths'. -/
def topPathsUptoCard : Claim7 := { stood := { row := topPathsUptoRow, standIns := [], harness := (true, "e37ef51ba31471294404285d4c57fb1e9b7ef20700de1d17658dd4db1b9169d9"), looks := false }, kinds := [], alts := [], laidByText := true, laidKinds := [.data, .data], laidTests := true, laidLooks := .later }
def TopPathsUptoCardSaid : Prop := Claim7.holds Tryd.pinned (.plain (OpenSpec.upto topPathsSpec)) topPathsUptoCard
end Rows
end Go.Proofs.YtaindcicloapfaaDoor
