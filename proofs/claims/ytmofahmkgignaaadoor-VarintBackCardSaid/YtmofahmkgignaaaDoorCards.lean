/-
  DERIVED. GIVEN WITH THE SEED: THE CARDS: each row of YtmofahmkgignaaaDoorRows.lean that lists a variable, with what it lists TIED to the program's text (the seventh form; the later family's looks); each row that meets fmt, with fmt's text TOLD by the authors' own Lean function (tested against real Go, not proved from fmt's source: count such statements apart). THE CARD IS WHAT COUNTS. Prove the row's statement (the work); the ties are given (YtmofahmkgignaaaDoorTie.lean); close each card by the builder's one call (the guide's Derived/Test/ToyasCard.lean, 'card_holds'). Laid BY PROGRAM, IN A SANDBOX (cutbox-door.mjs). By AI agents, Wed Nov 11 2026. No macro, syntax, notation, axiom, sorry.
-/
import Derived.Test.YtmofahmkgignaaaDoorRows
import GoSem.ClaimSeven
namespace Go.Proofs.YtmofahmkgignaaaDoor
namespace Rows

/-- THE TIED CARD OF 'wirelaw1.TripTells'. -/
def tripTellsCard : Claim7 := { stood := { row := tripTellsRow, standIns := [], harness := (true, "1e089376c88522e9150943dfc2a39804e2f69b1d6ffba9bfb1243664abe076a3"), looks := true }, kinds := [], alts := [], laidByText := true, laidKinds := [.handle], laidTests := true, laidLooks := .later }
def TripTellsCardSaid : Prop := Claim7.holds Tryd.pinned (.plain (OpenSpec.ofChange tripTellsSpec)) tripTellsCard

/-- THE TIED CARD OF 'wirelaw1.NumberTells'. -/
def numberTellsCard : Claim7 := { stood := { row := numberTellsRow, standIns := [], harness := (true, "1e089376c88522e9150943dfc2a39804e2f69b1d6ffba9bfb1243664abe076a3"), looks := true }, kinds := [], alts := [], laidByText := true, laidKinds := [.handle], laidTests := true, laidLooks := .later }
def NumberTellsCardSaid : Prop := Claim7.holds Tryd.pinned (.plain (OpenSpec.ofChange numberTellsSpec)) numberTellsCard

/-- THE TIED CARD OF 'wirelaw4.VarintShort'. -/
def varintShortCard : Claim7 := { stood := { row := varintShortRow, standIns := [], harness := (true, "1e089376c88522e9150943dfc2a39804e2f69b1d6ffba9bfb1243664abe076a3"), looks := true }, kinds := [], alts := [], laidByText := true, laidKinds := [.data], laidTests := true, laidLooks := .later }
def VarintShortCardSaid : Prop := Claim7.holds Tryd.pinned (.plain (OpenSpec.ofChange varintShortSpec)) varintShortCard

/-- THE TIED CARD OF 'wirelaw1.VarintBack'. -/
def varintBackCard : Claim7 := { stood := { row := varintBackRow, standIns := [], harness := (true, "1e089376c88522e9150943dfc2a39804e2f69b1d6ffba9bfb1243664abe076a3"), looks := true }, kinds := [], alts := [], laidByText := true, laidKinds := [.data], laidTests := true, laidLooks := .later }
def VarintBackCardSaid : Prop := Claim7.holds Tryd.pinned (.plain (OpenSpec.ofChange varintBackSpec)) varintBackCard

/-- THE TIED CARD OF 'wirelaw1.VarintTells'. -/
def varintTellsCard : Claim7 := { stood := { row := varintTellsRow, standIns := [], harness := (true, "1e089376c88522e9150943dfc2a39804e2f69b1d6ffba9bfb1243664abe076a3"), looks := true }, kinds := [], alts := [], laidByText := true, laidKinds := [.handle, .data], laidTests := true, laidLooks := .later }
def VarintTellsCardSaid : Prop := Claim7.holds Tryd.pinned (.plain (OpenSpec.ofChange varintTellsSpec)) varintTellsCard

/-- THE TIED CARD OF 'wirelaw1.PathThrice'. -/
def pathThriceCard : Claim7 := { stood := { row := pathThriceRow, standIns := [], harness := (true, "1e089376c88522e9150943dfc2a39804e2f69b1d6ffba9bfb1243664abe076a3"), looks := true }, kinds := [], alts := [], laidByText := true, laidKinds := [.handle], laidTests := true, laidLooks := .later }
def PathThriceCardSaid : Prop := Claim7.holds Tryd.pinned (.plain (OpenSpec.ofChange pathThriceSpec)) pathThriceCard

/-- THE TIED CARD OF 'wirelaw1.PathTells'. -/
def pathTellsCard : Claim7 := { stood := { row := pathTellsRow, standIns := [], harness := (true, "1e089376c88522e9150943dfc2a39804e2f69b1d6ffba9bfb1243664abe076a3"), looks := true }, kinds := [], alts := [], laidByText := true, laidKinds := [.handle], laidTests := true, laidLooks := .later }
def PathTellsCardSaid : Prop := Claim7.holds Tryd.pinned (.plain (OpenSpec.ofChange pathTellsSpec)) pathTellsCard

/-- THE TIED CARD OF 'wirelaw4.PathKnown'. -/
def pathKnownCard : Claim7 := { stood := { row := pathKnownRow, standIns := [], harness := (true, "1e089376c88522e9150943dfc2a39804e2f69b1d6ffba9bfb1243664abe076a3"), looks := true }, kinds := [], alts := [], laidByText := true, laidKinds := [.handle], laidTests := true, laidLooks := .later }
def PathKnownCardSaid : Prop := Claim7.holds Tryd.pinned (.plain (OpenSpec.ofChange pathKnownSpec)) pathKnownCard

/-- THE SECOND FORM's CARD OF 'wirelaw1.TripTells'. -/
def tripTellsUptoCard : Claim7 := { stood := { row := tripTellsUptoRow, standIns := [], harness := (true, "1e089376c88522e9150943dfc2a39804e2f69b1d6ffba9bfb1243664abe076a3"), looks := true }, kinds := [], alts := [], laidByText := true, laidKinds := [.handle], laidTests := true, laidLooks := .later }
def TripTellsUptoCardSaid : Prop := Claim7.holds Tryd.pinned (.plain (OpenSpec.upto tripTellsSpec)) tripTellsUptoCard

/-- THE SECOND FORM's CARD OF 'wirelaw1.NumberTells'. -/
def numberTellsUptoCard : Claim7 := { stood := { row := numberTellsUptoRow, standIns := [], harness := (true, "1e089376c88522e9150943dfc2a39804e2f69b1d6ffba9bfb1243664abe076a3"), looks := true }, kinds := [], alts := [], laidByText := true, laidKinds := [.handle], laidTests := true, laidLooks := .later }
def NumberTellsUptoCardSaid : Prop := Claim7.holds Tryd.pinned (.plain (OpenSpec.upto numberTellsSpec)) numberTellsUptoCard

/-- THE SECOND FORM's CARD OF 'wirelaw4.VarintShort'. -/
def varintShortUptoCard : Claim7 := { stood := { row := varintShortUptoRow, standIns := [], harness := (true, "1e089376c88522e9150943dfc2a39804e2f69b1d6ffba9bfb1243664abe076a3"), looks := true }, kinds := [], alts := [], laidByText := true, laidKinds := [.data], laidTests := true, laidLooks := .later }
def VarintShortUptoCardSaid : Prop := Claim7.holds Tryd.pinned (.plain (OpenSpec.upto varintShortSpec)) varintShortUptoCard

/-- THE SECOND FORM's CARD OF 'wirelaw1.VarintBack'. -/
def varintBackUptoCard : Claim7 := { stood := { row := varintBackUptoRow, standIns := [], harness := (true, "1e089376c88522e9150943dfc2a39804e2f69b1d6ffba9bfb1243664abe076a3"), looks := true }, kinds := [], alts := [], laidByText := true, laidKinds := [.data], laidTests := true, laidLooks := .later }
def VarintBackUptoCardSaid : Prop := Claim7.holds Tryd.pinned (.plain (OpenSpec.upto varintBackSpec)) varintBackUptoCard

/-- THE SECOND FORM's CARD OF 'wirelaw1.VarintTells'. -/
def varintTellsUptoCard : Claim7 := { stood := { row := varintTellsUptoRow, standIns := [], harness := (true, "1e089376c88522e9150943dfc2a39804e2f69b1d6ffba9bfb1243664abe076a3"), looks := true }, kinds := [], alts := [], laidByText := true, laidKinds := [.handle, .data], laidTests := true, laidLooks := .later }
def VarintTellsUptoCardSaid : Prop := Claim7.holds Tryd.pinned (.plain (OpenSpec.upto varintTellsSpec)) varintTellsUptoCard

/-- THE SECOND FORM's CARD OF 'wirelaw1.PathThrice'. -/
def pathThriceUptoCard : Claim7 := { stood := { row := pathThriceUptoRow, standIns := [], harness := (true, "1e089376c88522e9150943dfc2a39804e2f69b1d6ffba9bfb1243664abe076a3"), looks := true }, kinds := [], alts := [], laidByText := true, laidKinds := [.handle], laidTests := true, laidLooks := .later }
def PathThriceUptoCardSaid : Prop := Claim7.holds Tryd.pinned (.plain (OpenSpec.upto pathThriceSpec)) pathThriceUptoCard

/-- THE SECOND FORM's CARD OF 'wirelaw1.PathTells'. -/
def pathTellsUptoCard : Claim7 := { stood := { row := pathTellsUptoRow, standIns := [], harness := (true, "1e089376c88522e9150943dfc2a39804e2f69b1d6ffba9bfb1243664abe076a3"), looks := true }, kinds := [], alts := [], laidByText := true, laidKinds := [.handle], laidTests := true, laidLooks := .later }
def PathTellsUptoCardSaid : Prop := Claim7.holds Tryd.pinned (.plain (OpenSpec.upto pathTellsSpec)) pathTellsUptoCard

/-- THE SECOND FORM's CARD OF 'wirelaw4.PathKnown'. -/
def pathKnownUptoCard : Claim7 := { stood := { row := pathKnownUptoRow, standIns := [], harness := (true, "1e089376c88522e9150943dfc2a39804e2f69b1d6ffba9bfb1243664abe076a3"), looks := true }, kinds := [], alts := [], laidByText := true, laidKinds := [.handle], laidTests := true, laidLooks := .later }
def PathKnownUptoCardSaid : Prop := Claim7.holds Tryd.pinned (.plain (OpenSpec.upto pathKnownSpec)) pathKnownUptoCard
end Rows
end Go.Proofs.YtmofahmkgignaaaDoor
