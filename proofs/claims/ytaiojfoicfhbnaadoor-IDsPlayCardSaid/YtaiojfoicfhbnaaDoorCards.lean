/-
  DERIVED. GIVEN WITH THE SEED: THE CARDS: each row of YtaiojfoicfhbnaaDoorRows.lean that lists a variable, with what it lists TIED to the program's text (the seventh form; the later family's looks); each row that meets fmt, with fmt's text TOLD by the authors' own Lean function (tested against real Go, not proved from fmt's source: count such statements apart). THE CARD IS WHAT COUNTS. Prove the row's statement (the work); the ties are given (YtaiojfoicfhbnaaDoorTie.lean); close each card by the builder's one call (the guide's Derived/Test/ToyasCard.lean, 'card_holds'). Laid BY PROGRAM, IN A SANDBOX (cutbox-door.mjs). By AI agents, Wed Nov 11 2026. No macro, syntax, notation, axiom, sorry.
-/
import Derived.Test.YtaiojfoicfhbnaaDoorRows
import GoSem.ClaimSeven
namespace Go.Proofs.YtaiojfoicfhbnaaDoor
namespace Rows

/-- THE TIED CARD OF 'wirelaw1.CreditPlays'. -/
def creditPlaysCard : Claim7 := { stood := { row := creditPlaysRow, standIns := [], harness := (true, "aad36e16af74e7c4523db5050f50eaf59de014a976957debd6c52ded178783a2"), looks := true }, kinds := [], alts := [], laidByText := true, laidKinds := [.handle], laidTests := true, laidLooks := .later }
def CreditPlaysCardSaid : Prop := Claim7.holds Tryd.pinned (.plain (OpenSpec.ofChange creditPlaysSpec)) creditPlaysCard

/-- THE TIED CARD OF 'wirelaw4.CreditFirst'. -/
def creditFirstCard : Claim7 := { stood := { row := creditFirstRow, standIns := [], harness := (true, "aad36e16af74e7c4523db5050f50eaf59de014a976957debd6c52ded178783a2"), looks := true }, kinds := [], alts := [], laidByText := true, laidKinds := [.handle], laidTests := true, laidLooks := .later }
def CreditFirstCardSaid : Prop := Claim7.holds Tryd.pinned (.plain (OpenSpec.ofChange creditFirstSpec)) creditFirstCard

/-- THE TIED CARD OF 'wirelaw2.WindowTells'. -/
def windowTellsCard : Claim7 := { stood := { row := windowTellsRow, standIns := [], harness := (true, "aad36e16af74e7c4523db5050f50eaf59de014a976957debd6c52ded178783a2"), looks := true }, kinds := [], alts := [], laidByText := true, laidKinds := [.handle], laidTests := true, laidLooks := .later }
def WindowTellsCardSaid : Prop := Claim7.holds Tryd.pinned (.plain (OpenSpec.ofChange windowTellsSpec)) windowTellsCard

/-- THE TIED CARD OF 'wirelaw4.ProofMany'. -/
def proofManyCard : Claim7 := { stood := { row := proofManyRow, standIns := [], harness := (true, "aad36e16af74e7c4523db5050f50eaf59de014a976957debd6c52ded178783a2"), looks := true }, kinds := [], alts := [], laidByText := true, laidKinds := [.handle], laidTests := true, laidLooks := .later }
def ProofManyCardSaid : Prop := Claim7.holds Tryd.pinned (.plain (OpenSpec.ofChange proofManySpec)) proofManyCard

/-- THE TIED CARD OF 'wirelaw1.ProofHere'. -/
def proofHereCard : Claim7 := { stood := { row := proofHereRow, standIns := [], harness := (true, "aad36e16af74e7c4523db5050f50eaf59de014a976957debd6c52ded178783a2"), looks := true }, kinds := [], alts := [], laidByText := true, laidKinds := [.handle], laidTests := true, laidLooks := .later }
def ProofHereCardSaid : Prop := Claim7.holds Tryd.pinned (.plain (OpenSpec.ofChange proofHereSpec)) proofHereCard

/-- THE TIED CARD OF 'wirelaw1.ProofPlays'. -/
def proofPlaysCard : Claim7 := { stood := { row := proofPlaysRow, standIns := [], harness := (true, "aad36e16af74e7c4523db5050f50eaf59de014a976957debd6c52ded178783a2"), looks := true }, kinds := [], alts := [], laidByText := true, laidKinds := [.handle], laidTests := true, laidLooks := .later }
def ProofPlaysCardSaid : Prop := Claim7.holds Tryd.pinned (.plain (OpenSpec.ofChange proofPlaysSpec)) proofPlaysCard

/-- THE TIED CARD OF 'wirelaw4.IDsFull'. -/
def iDsFullCard : Claim7 := { stood := { row := iDsFullRow, standIns := [], harness := (true, "aad36e16af74e7c4523db5050f50eaf59de014a976957debd6c52ded178783a2"), looks := true }, kinds := [], alts := [], laidByText := true, laidKinds := [.handle], laidTests := true, laidLooks := .later }
def IDsFullCardSaid : Prop := Claim7.holds Tryd.pinned (.plain (OpenSpec.ofChange iDsFullSpec)) iDsFullCard

/-- THE TIED CARD OF 'wirelaw1.IDsOnce'. -/
def iDsOnceCard : Claim7 := { stood := { row := iDsOnceRow, standIns := [], harness := (true, "aad36e16af74e7c4523db5050f50eaf59de014a976957debd6c52ded178783a2"), looks := true }, kinds := [], alts := [], laidByText := true, laidKinds := [.handle], laidTests := true, laidLooks := .later }
def IDsOnceCardSaid : Prop := Claim7.holds Tryd.pinned (.plain (OpenSpec.ofChange iDsOnceSpec)) iDsOnceCard

/-- THE TIED CARD OF 'wirelaw1.IDsPlay'. -/
def iDsPlayCard : Claim7 := { stood := { row := iDsPlayRow, standIns := [], harness := (true, "aad36e16af74e7c4523db5050f50eaf59de014a976957debd6c52ded178783a2"), looks := true }, kinds := [], alts := [], laidByText := true, laidKinds := [.handle], laidTests := true, laidLooks := .later }
def IDsPlayCardSaid : Prop := Claim7.holds Tryd.pinned (.plain (OpenSpec.ofChange iDsPlaySpec)) iDsPlayCard

/-- THE SECOND FORM's CARD OF 'wirelaw1.CreditPlays'. -/
def creditPlaysUptoCard : Claim7 := { stood := { row := creditPlaysUptoRow, standIns := [], harness := (true, "aad36e16af74e7c4523db5050f50eaf59de014a976957debd6c52ded178783a2"), looks := true }, kinds := [], alts := [], laidByText := true, laidKinds := [.handle], laidTests := true, laidLooks := .later }
def CreditPlaysUptoCardSaid : Prop := Claim7.holds Tryd.pinned (.plain (OpenSpec.upto creditPlaysSpec)) creditPlaysUptoCard

/-- THE SECOND FORM's CARD OF 'wirelaw4.CreditFirst'. -/
def creditFirstUptoCard : Claim7 := { stood := { row := creditFirstUptoRow, standIns := [], harness := (true, "aad36e16af74e7c4523db5050f50eaf59de014a976957debd6c52ded178783a2"), looks := true }, kinds := [], alts := [], laidByText := true, laidKinds := [.handle], laidTests := true, laidLooks := .later }
def CreditFirstUptoCardSaid : Prop := Claim7.holds Tryd.pinned (.plain (OpenSpec.upto creditFirstSpec)) creditFirstUptoCard

/-- THE SECOND FORM's CARD OF 'wirelaw2.WindowTells'. -/
def windowTellsUptoCard : Claim7 := { stood := { row := windowTellsUptoRow, standIns := [], harness := (true, "aad36e16af74e7c4523db5050f50eaf59de014a976957debd6c52ded178783a2"), looks := true }, kinds := [], alts := [], laidByText := true, laidKinds := [.handle], laidTests := true, laidLooks := .later }
def WindowTellsUptoCardSaid : Prop := Claim7.holds Tryd.pinned (.plain (OpenSpec.upto windowTellsSpec)) windowTellsUptoCard

/-- THE SECOND FORM's CARD OF 'wirelaw4.ProofMany'. -/
def proofManyUptoCard : Claim7 := { stood := { row := proofManyUptoRow, standIns := [], harness := (true, "aad36e16af74e7c4523db5050f50eaf59de014a976957debd6c52ded178783a2"), looks := true }, kinds := [], alts := [], laidByText := true, laidKinds := [.handle], laidTests := true, laidLooks := .later }
def ProofManyUptoCardSaid : Prop := Claim7.holds Tryd.pinned (.plain (OpenSpec.upto proofManySpec)) proofManyUptoCard

/-- THE SECOND FORM's CARD OF 'wirelaw1.ProofHere'. -/
def proofHereUptoCard : Claim7 := { stood := { row := proofHereUptoRow, standIns := [], harness := (true, "aad36e16af74e7c4523db5050f50eaf59de014a976957debd6c52ded178783a2"), looks := true }, kinds := [], alts := [], laidByText := true, laidKinds := [.handle], laidTests := true, laidLooks := .later }
def ProofHereUptoCardSaid : Prop := Claim7.holds Tryd.pinned (.plain (OpenSpec.upto proofHereSpec)) proofHereUptoCard

/-- THE SECOND FORM's CARD OF 'wirelaw1.ProofPlays'. -/
def proofPlaysUptoCard : Claim7 := { stood := { row := proofPlaysUptoRow, standIns := [], harness := (true, "aad36e16af74e7c4523db5050f50eaf59de014a976957debd6c52ded178783a2"), looks := true }, kinds := [], alts := [], laidByText := true, laidKinds := [.handle], laidTests := true, laidLooks := .later }
def ProofPlaysUptoCardSaid : Prop := Claim7.holds Tryd.pinned (.plain (OpenSpec.upto proofPlaysSpec)) proofPlaysUptoCard

/-- THE SECOND FORM's CARD OF 'wirelaw4.IDsFull'. -/
def iDsFullUptoCard : Claim7 := { stood := { row := iDsFullUptoRow, standIns := [], harness := (true, "aad36e16af74e7c4523db5050f50eaf59de014a976957debd6c52ded178783a2"), looks := true }, kinds := [], alts := [], laidByText := true, laidKinds := [.handle], laidTests := true, laidLooks := .later }
def IDsFullUptoCardSaid : Prop := Claim7.holds Tryd.pinned (.plain (OpenSpec.upto iDsFullSpec)) iDsFullUptoCard

/-- THE SECOND FORM's CARD OF 'wirelaw1.IDsOnce'. -/
def iDsOnceUptoCard : Claim7 := { stood := { row := iDsOnceUptoRow, standIns := [], harness := (true, "aad36e16af74e7c4523db5050f50eaf59de014a976957debd6c52ded178783a2"), looks := true }, kinds := [], alts := [], laidByText := true, laidKinds := [.handle], laidTests := true, laidLooks := .later }
def IDsOnceUptoCardSaid : Prop := Claim7.holds Tryd.pinned (.plain (OpenSpec.upto iDsOnceSpec)) iDsOnceUptoCard

/-- THE SECOND FORM's CARD OF 'wirelaw1.IDsPlay'. -/
def iDsPlayUptoCard : Claim7 := { stood := { row := iDsPlayUptoRow, standIns := [], harness := (true, "aad36e16af74e7c4523db5050f50eaf59de014a976957debd6c52ded178783a2"), looks := true }, kinds := [], alts := [], laidByText := true, laidKinds := [.handle], laidTests := true, laidLooks := .later }
def IDsPlayUptoCardSaid : Prop := Claim7.holds Tryd.pinned (.plain (OpenSpec.upto iDsPlaySpec)) iDsPlayUptoCard
end Rows
end Go.Proofs.YtaiojfoicfhbnaaDoor
