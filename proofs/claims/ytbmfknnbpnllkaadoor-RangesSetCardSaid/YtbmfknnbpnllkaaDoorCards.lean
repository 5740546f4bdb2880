/-
  DERIVED. GIVEN WITH THE SEED: THE CARDS: each row of YtbmfknnbpnllkaaDoorRows.lean that lists a variable, with what it lists TIED to the program's text (the seventh form; the later family's looks); each row that meets fmt, with fmt's text TOLD by the authors' own Lean function (tested against real Go, not proved from fmt's source: count such statements apart). THE CARD IS WHAT COUNTS. Prove the row's statement (the work); the ties are given (YtbmfknnbpnllkaaDoorTie.lean); close each card by the builder's one call (the guide's Derived/Test/ToyasCard.lean, 'card_holds'). Laid BY PROGRAM, IN A SANDBOX (cutbox-door.mjs). By AI agents, Wed Nov 11 2026. No macro, syntax, notation, axiom, sorry.
-/
import Derived.Test.YtbmfknnbpnllkaaDoorRows
import GoSem.ClaimSeven
namespace Go.Proofs.YtbmfknnbpnllkaaDoor
namespace Rows

/-- THE TIED CARD OF 'wirelaw1.StreamOrder'. -/
def streamOrderCard : Claim7 := { stood := { row := streamOrderRow, standIns := [], harness := (true, "439d54910d1d66f0aa309d08266859a82a248ffc350ee0cbf24644b3cd7fb4f0"), looks := true }, kinds := [], alts := [], laidByText := true, laidKinds := [.handle], laidTests := true, laidLooks := .later }
def StreamOrderCardSaid : Prop := Claim7.holds Tryd.pinned (.plain (OpenSpec.ofChange streamOrderSpec)) streamOrderCard

/-- THE TIED CARD OF 'wirelaw1.StreamPlays'. -/
def streamPlaysCard : Claim7 := { stood := { row := streamPlaysRow, standIns := [], harness := (true, "439d54910d1d66f0aa309d08266859a82a248ffc350ee0cbf24644b3cd7fb4f0"), looks := true }, kinds := [], alts := [], laidByText := true, laidKinds := [.handle], laidTests := true, laidLooks := .later }
def StreamPlaysCardSaid : Prop := Claim7.holds Tryd.pinned (.plain (OpenSpec.ofChange streamPlaysSpec)) streamPlaysCard

/-- THE TIED CARD OF 'wirelaw4.LinkMany'. -/
def linkManyCard : Claim7 := { stood := { row := linkManyRow, standIns := [], harness := (true, "439d54910d1d66f0aa309d08266859a82a248ffc350ee0cbf24644b3cd7fb4f0"), looks := true }, kinds := [], alts := [], laidByText := true, laidKinds := [.handle], laidTests := true, laidLooks := .later }
def LinkManyCardSaid : Prop := Claim7.holds Tryd.pinned (.plain (OpenSpec.ofChange linkManySpec)) linkManyCard

/-- THE TIED CARD OF 'wirelaw2.LinkPlays'. -/
def linkPlaysCard : Claim7 := { stood := { row := linkPlaysRow, standIns := [], harness := (true, "439d54910d1d66f0aa309d08266859a82a248ffc350ee0cbf24644b3cd7fb4f0"), looks := true }, kinds := [], alts := [], laidByText := true, laidKinds := [.handle], laidTests := true, laidLooks := .later }
def LinkPlaysCardSaid : Prop := Claim7.holds Tryd.pinned (.plain (OpenSpec.ofChange linkPlaysSpec)) linkPlaysCard

/-- THE TIED CARD OF 'wirelaw2.LossTells'. -/
def lossTellsCard : Claim7 := { stood := { row := lossTellsRow, standIns := [], harness := (true, "439d54910d1d66f0aa309d08266859a82a248ffc350ee0cbf24644b3cd7fb4f0"), looks := true }, kinds := [], alts := [], laidByText := true, laidKinds := [.handle], laidTests := true, laidLooks := .later }
def LossTellsCardSaid : Prop := Claim7.holds Tryd.pinned (.plain (OpenSpec.ofChange lossTellsSpec)) lossTellsCard

/-- THE TIED CARD OF 'wirelaw1.RangesTell'. -/
def rangesTellCard : Claim7 := { stood := { row := rangesTellRow, standIns := [], harness := (true, "439d54910d1d66f0aa309d08266859a82a248ffc350ee0cbf24644b3cd7fb4f0"), looks := true }, kinds := [], alts := [], laidByText := true, laidKinds := [.handle], laidTests := true, laidLooks := .later }
def RangesTellCardSaid : Prop := Claim7.holds Tryd.pinned (.plain (OpenSpec.ofChange rangesTellSpec)) rangesTellCard

/-- THE TIED CARD OF 'wirelaw1.RangesSet'. -/
def rangesSetCard : Claim7 := { stood := { row := rangesSetRow, standIns := [], harness := (true, "439d54910d1d66f0aa309d08266859a82a248ffc350ee0cbf24644b3cd7fb4f0"), looks := true }, kinds := [], alts := [], laidByText := true, laidKinds := [.handle], laidTests := true, laidLooks := .later }
def RangesSetCardSaid : Prop := Claim7.holds Tryd.pinned (.plain (OpenSpec.ofChange rangesSetSpec)) rangesSetCard

/-- THE SECOND FORM's CARD OF 'wirelaw1.StreamOrder'. -/
def streamOrderUptoCard : Claim7 := { stood := { row := streamOrderUptoRow, standIns := [], harness := (true, "439d54910d1d66f0aa309d08266859a82a248ffc350ee0cbf24644b3cd7fb4f0"), looks := true }, kinds := [], alts := [], laidByText := true, laidKinds := [.handle], laidTests := true, laidLooks := .later }
def StreamOrderUptoCardSaid : Prop := Claim7.holds Tryd.pinned (.plain (OpenSpec.upto streamOrderSpec)) streamOrderUptoCard

/-- THE SECOND FORM's CARD OF 'wirelaw1.StreamPlays'. -/
def streamPlaysUptoCard : Claim7 := { stood := { row := streamPlaysUptoRow, standIns := [], harness := (true, "439d54910d1d66f0aa309d08266859a82a248ffc350ee0cbf24644b3cd7fb4f0"), looks := true }, kinds := [], alts := [], laidByText := true, laidKinds := [.handle], laidTests := true, laidLooks := .later }
def StreamPlaysUptoCardSaid : Prop := Claim7.holds Tryd.pinned (.plain (OpenSpec.upto streamPlaysSpec)) streamPlaysUptoCard

/-- THE SECOND FORM's CARD OF 'wirelaw4.LinkMany'. -/
def linkManyUptoCard : Claim7 := { stood := { row := linkManyUptoRow, standIns := [], harness := (true, "439d54910d1d66f0aa309d08266859a82a248ffc350ee0cbf24644b3cd7fb4f0"), looks := true }, kinds := [], alts := [], laidByText := true, laidKinds := [.handle], laidTests := true, laidLooks := .later }
def LinkManyUptoCardSaid : Prop := Claim7.holds Tryd.pinned (.plain (OpenSpec.upto linkManySpec)) linkManyUptoCard

/-- THE SECOND FORM's CARD OF 'wirelaw2.LinkPlays'. -/
def linkPlaysUptoCard : Claim7 := { stood := { row := linkPlaysUptoRow, standIns := [], harness := (true, "439d54910d1d66f0aa309d08266859a82a248ffc350ee0cbf24644b3cd7fb4f0"), looks := true }, kinds := [], alts := [], laidByText := true, laidKinds := [.handle], laidTests := true, laidLooks := .later }
def LinkPlaysUptoCardSaid : Prop := Claim7.holds Tryd.pinned (.plain (OpenSpec.upto linkPlaysSpec)) linkPlaysUptoCard

/-- THE SECOND FORM's CARD OF 'wirelaw2.LossTells'. -/
def lossTellsUptoCard : Claim7 := { stood := { row := lossTellsUptoRow, standIns := [], harness := (true, "439d54910d1d66f0aa309d08266859a82a248ffc350ee0cbf24644b3cd7fb4f0"), looks := true }, kinds := [], alts := [], laidByText := true, laidKinds := [.handle], laidTests := true, laidLooks := .later }
def LossTellsUptoCardSaid : Prop := Claim7.holds Tryd.pinned (.plain (OpenSpec.upto lossTellsSpec)) lossTellsUptoCard

/-- THE SECOND FORM's CARD OF 'wirelaw1.RangesTell'. -/
def rangesTellUptoCard : Claim7 := { stood := { row := rangesTellUptoRow, standIns := [], harness := (true, "439d54910d1d66f0aa309d08266859a82a248ffc350ee0cbf24644b3cd7fb4f0"), looks := true }, kinds := [], alts := [], laidByText := true, laidKinds := [.handle], laidTests := true, laidLooks := .later }
def RangesTellUptoCardSaid : Prop := Claim7.holds Tryd.pinned (.plain (OpenSpec.upto rangesTellSpec)) rangesTellUptoCard

/-- THE SECOND FORM's CARD OF 'wirelaw1.RangesSet'. -/
def rangesSetUptoCard : Claim7 := { stood := { row := rangesSetUptoRow, standIns := [], harness := (true, "439d54910d1d66f0aa309d08266859a82a248ffc350ee0cbf24644b3cd7fb4f0"), looks := true }, kinds := [], alts := [], laidByText := true, laidKinds := [.handle], laidTests := true, laidLooks := .later }
def RangesSetUptoCardSaid : Prop := Claim7.holds Tryd.pinned (.plain (OpenSpec.upto rangesSetSpec)) rangesSetUptoCard
end Rows
end Go.Proofs.YtbmfknnbpnllkaaDoor
