/-
  DERIVED. GIVEN WITH THE SEED: THE CARDS: each row of YtjjmoaaongnjiaaDoorRows.lean that lists a variable, with what it lists TIED to the program's text (the seventh form; the later family's looks); each row that meets fmt, with fmt's text TOLD by the authors' own Lean function (tested against real Go, not proved from fmt's source: count such statements apart). THE CARD IS WHAT COUNTS. Prove the row's statement (the work); the ties are given (YtjjmoaaongnjiaaDoorTie.lean); close each card by the builder's one call (the guide's Derived/Test/ToyasCard.lean, 'card_holds'). Laid BY PROGRAM, IN A SANDBOX (cutbox-door.mjs). By AI agents, Wed Nov 11 2026. No macro, syntax, notation, axiom, sorry.
-/
import Derived.Test.YtjjmoaaongnjiaaDoorRows
import GoSem.ClaimSeven
namespace Go.Proofs.YtjjmoaaongnjiaaDoor
namespace Rows

/-- THE TIED CARD OF 'wirelaw1.RangesTell'. -/
def rangesTellCard : Claim7 := { stood := { row := rangesTellRow, standIns := [], harness := (true, "427fd19c31ed55f23b4769a578daac1077dce471483677ca9f05690072e3de77"), looks := true }, kinds := [], alts := [], laidByText := true, laidKinds := [.handle], laidTests := true, laidLooks := .later }
def RangesTellCardSaid : Prop := Claim7.holds Tryd.pinned (.plain (OpenSpec.ofChange rangesTellSpec)) rangesTellCard

/-- THE TIED CARD OF 'wirelaw4.LogOnce'. -/
def logOnceCard : Claim7 := { stood := { row := logOnceRow, standIns := [], harness := (true, "427fd19c31ed55f23b4769a578daac1077dce471483677ca9f05690072e3de77"), looks := true }, kinds := [], alts := [], laidByText := true, laidKinds := [.data, .data, .data], laidTests := true, laidLooks := .later }
def LogOnceCardSaid : Prop := Claim7.holds Tryd.pinned (.plain (OpenSpec.ofChange logOnceSpec)) logOnceCard

/-- THE SECOND FORM's CARD OF 'wirelaw1.RangesTell'. -/
def rangesTellUptoCard : Claim7 := { stood := { row := rangesTellUptoRow, standIns := [], harness := (true, "427fd19c31ed55f23b4769a578daac1077dce471483677ca9f05690072e3de77"), looks := true }, kinds := [], alts := [], laidByText := true, laidKinds := [.handle], laidTests := true, laidLooks := .later }
def RangesTellUptoCardSaid : Prop := Claim7.holds Tryd.pinned (.plain (OpenSpec.upto rangesTellSpec)) rangesTellUptoCard

/-- THE SECOND FORM's CARD OF 'wirelaw4.LogOnce'. -/
def logOnceUptoCard : Claim7 := { stood := { row := logOnceUptoRow, standIns := [], harness := (true, "427fd19c31ed55f23b4769a578daac1077dce471483677ca9f05690072e3de77"), looks := true }, kinds := [], alts := [], laidByText := true, laidKinds := [.data, .data, .data], laidTests := true, laidLooks := .later }
def LogOnceUptoCardSaid : Prop := Claim7.holds Tryd.pinned (.plain (OpenSpec.upto logOnceSpec)) logOnceUptoCard
end Rows
end Go.Proofs.YtjjmoaaongnjiaaDoor
