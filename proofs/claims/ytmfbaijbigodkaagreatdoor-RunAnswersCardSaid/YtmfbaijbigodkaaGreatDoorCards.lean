/-
  DERIVED. GIVEN WITH THE SEED: THE CARDS: each row of YtmfbaijbigodkaaGreatDoorRows.lean that lists a variable, with what it lists TIED to the program's text (the seventh form; the later family's looks); each row that meets fmt, with fmt's text TOLD by the authors' own Lean function (tested against real Go, not proved from fmt's source: count such statements apart). THE CARD IS WHAT COUNTS. Prove the row's statement (the work); the ties are given (YtmfbaijbigodkaaGreatDoorTie.lean); close each card by the builder's one call (the guide's Derived/Test/ToyasCard.lean, 'card_holds'). Laid BY PROGRAM, IN A SANDBOX (cutbox-door.mjs). By AI agents, Wed Nov 11 2026. No macro, syntax, notation, axiom, sorry.
-/
import Derived.Test.YtmfbaijbigodkaaGreatDoorRows
import GoSem.ClaimSeven
namespace Go.Proofs.YtmfbaijbigodkaaGreatDoor
namespace Rows

/-- THE TIED CARD OF 'wirelaw2.EndPlays'. -/
def endPlaysCard : Claim7 := { stood := { row := endPlaysRow, standIns := [], harness := (true, "6c55498c3c57723e689023dfd4f808b7727f9519d334bd4288e0af192171037e"), looks := true }, kinds := [], alts := [], laidByText := true, laidKinds := [.handle, .data, .data], laidTests := true, laidLooks := .later }
def EndPlaysCardSaid : Prop := Claim7.holds Tryz.pinned (.plain (OpenSpec.ofChange endPlaysSpec)) endPlaysCard

/-- THE TIED CARD OF 'wirelaw2.TalkPlays'. -/
def talkPlaysCard : Claim7 := { stood := { row := talkPlaysRow, standIns := [], harness := (true, "6c55498c3c57723e689023dfd4f808b7727f9519d334bd4288e0af192171037e"), looks := true }, kinds := [], alts := [], laidByText := true, laidKinds := [.handle, .data, .data], laidTests := true, laidLooks := .later }
def TalkPlaysCardSaid : Prop := Claim7.holds Tryz.pinned (.plain (OpenSpec.ofChange talkPlaysSpec)) talkPlaysCard

/-- THE TIED CARD OF 'wirelaw3.RunAnswers'. -/
def runAnswersCard : Claim7 := { stood := { row := runAnswersRow, standIns := [], harness := (true, "6c55498c3c57723e689023dfd4f808b7727f9519d334bd4288e0af192171037e"), looks := true }, kinds := [], alts := [], laidByText := true, laidKinds := [.data, .data, .data, .data, .handle, .sentinel, .sentinel, .data, .data, .wider, .pinned], laidTests := true, laidLooks := .later }
def RunAnswersCardSaid : Prop := Claim7.holds Tryz.pinned (.plain (OpenSpec.ofChange runAnswersSpec)) runAnswersCard

/-- THE TIED CARD OF 'wirelaw3.RunBegins'. -/
def runBeginsCard : Claim7 := { stood := { row := runBeginsRow, standIns := [], harness := (true, "6c55498c3c57723e689023dfd4f808b7727f9519d334bd4288e0af192171037e"), looks := true }, kinds := [], alts := [], laidByText := true, laidKinds := [.data, .data, .data, .data, .handle, .sentinel, .sentinel, .data, .data, .wider, .pinned], laidTests := true, laidLooks := .later }
def RunBeginsCardSaid : Prop := Claim7.holds Tryz.pinned (.plain (OpenSpec.ofChange runBeginsSpec)) runBeginsCard

/-- THE TIED CARD OF 'wirelaw3.RunTwice'. -/
def runTwiceCard : Claim7 := { stood := { row := runTwiceRow, standIns := [], harness := (true, "6c55498c3c57723e689023dfd4f808b7727f9519d334bd4288e0af192171037e"), looks := true }, kinds := [], alts := [], laidByText := true, laidKinds := [.data, .data, .data, .data, .handle, .sentinel, .sentinel, .data, .data, .wider, .pinned], laidTests := true, laidLooks := .later }
def RunTwiceCardSaid : Prop := Claim7.holds Tryz.pinned (.plain (OpenSpec.ofChange runTwiceSpec)) runTwiceCard

/-- THE SECOND FORM's CARD OF 'wirelaw2.EndPlays'. -/
def endPlaysUptoCard : Claim7 := { stood := { row := endPlaysUptoRow, standIns := [], harness := (true, "6c55498c3c57723e689023dfd4f808b7727f9519d334bd4288e0af192171037e"), looks := true }, kinds := [], alts := [], laidByText := true, laidKinds := [.handle, .data, .data], laidTests := true, laidLooks := .later }
def EndPlaysUptoCardSaid : Prop := Claim7.holds Tryz.pinned (.plain (OpenSpec.upto endPlaysSpec)) endPlaysUptoCard

/-- THE SECOND FORM's CARD OF 'wirelaw2.TalkPlays'. -/
def talkPlaysUptoCard : Claim7 := { stood := { row := talkPlaysUptoRow, standIns := [], harness := (true, "6c55498c3c57723e689023dfd4f808b7727f9519d334bd4288e0af192171037e"), looks := true }, kinds := [], alts := [], laidByText := true, laidKinds := [.handle, .data, .data], laidTests := true, laidLooks := .later }
def TalkPlaysUptoCardSaid : Prop := Claim7.holds Tryz.pinned (.plain (OpenSpec.upto talkPlaysSpec)) talkPlaysUptoCard

/-- THE SECOND FORM's CARD OF 'wirelaw3.RunAnswers'. -/
def runAnswersUptoCard : Claim7 := { stood := { row := runAnswersUptoRow, standIns := [], harness := (true, "6c55498c3c57723e689023dfd4f808b7727f9519d334bd4288e0af192171037e"), looks := true }, kinds := [], alts := [], laidByText := true, laidKinds := [.data, .data, .data, .data, .handle, .sentinel, .sentinel, .data, .data, .wider, .pinned], laidTests := true, laidLooks := .later }
def RunAnswersUptoCardSaid : Prop := Claim7.holds Tryz.pinned (.plain (OpenSpec.upto runAnswersSpec)) runAnswersUptoCard

/-- THE SECOND FORM's CARD OF 'wirelaw3.RunBegins'. -/
def runBeginsUptoCard : Claim7 := { stood := { row := runBeginsUptoRow, standIns := [], harness := (true, "6c55498c3c57723e689023dfd4f808b7727f9519d334bd4288e0af192171037e"), looks := true }, kinds := [], alts := [], laidByText := true, laidKinds := [.data, .data, .data, .data, .handle, .sentinel, .sentinel, .data, .data, .wider, .pinned], laidTests := true, laidLooks := .later }
def RunBeginsUptoCardSaid : Prop := Claim7.holds Tryz.pinned (.plain (OpenSpec.upto runBeginsSpec)) runBeginsUptoCard

/-- THE SECOND FORM's CARD OF 'wirelaw3.RunTwice'. -/
def runTwiceUptoCard : Claim7 := { stood := { row := runTwiceUptoRow, standIns := [], harness := (true, "6c55498c3c57723e689023dfd4f808b7727f9519d334bd4288e0af192171037e"), looks := true }, kinds := [], alts := [], laidByText := true, laidKinds := [.data, .data, .data, .data, .handle, .sentinel, .sentinel, .data, .data, .wider, .pinned], laidTests := true, laidLooks := .later }
def RunTwiceUptoCardSaid : Prop := Claim7.holds Tryz.pinned (.plain (OpenSpec.upto runTwiceSpec)) runTwiceUptoCard
end Rows
end Go.Proofs.YtmfbaijbigodkaaGreatDoor
