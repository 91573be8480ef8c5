/-
  DERIVED. GIVEN WITH THE SEED: THE CARDS: each row of YtmceiidhhpcjkaaDoorRows.lean that lists a variable, with what it lists TIED to the program's text (the seventh form; the later family's looks); each row that meets fmt, with fmt's text TOLD by the authors' own Lean function (tested against real Go, not proved from fmt's source: count such statements apart). THE CARD IS WHAT COUNTS. Prove the row's statement (the work); the ties are given (YtmceiidhhpcjkaaDoorTie.lean); close each card by the builder's one call (the guide's Derived/Test/ToyasCard.lean, 'card_holds'). Laid BY PROGRAM, IN A SANDBOX (cutbox-door.mjs). By AI agents, Wed Nov 11 2026. No macro, syntax, notation, axiom, sorry.
-/
import Derived.Test.YtmceiidhhpcjkaaDoorRows
import GoSem.ClaimSeven
namespace Go.Proofs.YtmceiidhhpcjkaaDoor
namespace Rows

/-- THE TIED CARD OF 'portolanlaw08.KindFits'. -/
def kindFitsCard : Claim7 := { stood := { row := kindFitsRow, standIns := [], harness := (true, "8d1d833a99d233ba33cd3d1bd675d2b82304705cf6ccdc91ba76525e1b92bfaf"), looks := false }, kinds := [], alts := [], laidByText := true, laidKinds := [.data, .data], laidTests := true, laidLooks := .later }
def KindFitsCardSaid : Prop := Claim7.holds Tryd.pinned (.plain (OpenSpec.ofChange kindFitsSpec)) kindFitsCard

/-- THE TIED CARD OF 'portolanlaw08.KindOrder'. -/
def kindOrderCard : Claim7 := { stood := { row := kindOrderRow, standIns := [], harness := (true, "8d1d833a99d233ba33cd3d1bd675d2b82304705cf6ccdc91ba76525e1b92bfaf"), looks := false }, kinds := [], alts := [], laidByText := true, laidKinds := [.data, .data], laidTests := true, laidLooks := .later }
def KindOrderCardSaid : Prop := Claim7.holds Tryd.pinned (.plain (OpenSpec.ofChange kindOrderSpec)) kindOrderCard

/-- THE TIED CARD OF 'portolanlaw08.KindWays'. -/
def kindWaysCard : Claim7 := { stood := { row := kindWaysRow, standIns := [], harness := (true, "8d1d833a99d233ba33cd3d1bd675d2b82304705cf6ccdc91ba76525e1b92bfaf"), looks := false }, kinds := [], alts := [], laidByText := true, laidKinds := [.data, .data], laidTests := true, laidLooks := .later }
def KindWaysCardSaid : Prop := Claim7.holds Tryd.pinned (.plain (OpenSpec.ofChange kindWaysSpec)) kindWaysCard

/-- THE SECOND FORM's CARD OF 'portolanlaw08.KindFits'. -/
def kindFitsUptoCard : Claim7 := { stood := { row := kindFitsUptoRow, standIns := [], harness := (true, "8d1d833a99d233ba33cd3d1bd675d2b82304705cf6ccdc91ba76525e1b92bfaf"), looks := false }, kinds := [], alts := [], laidByText := true, laidKinds := [.data, .data], laidTests := true, laidLooks := .later }
def KindFitsUptoCardSaid : Prop := Claim7.holds Tryd.pinned (.plain (OpenSpec.upto kindFitsSpec)) kindFitsUptoCard

/-- THE SECOND FORM's CARD OF 'portolanlaw08.KindOrder'. -/
def kindOrderUptoCard : Claim7 := { stood := { row := kindOrderUptoRow, standIns := [], harness := (true, "8d1d833a99d233ba33cd3d1bd675d2b82304705cf6ccdc91ba76525e1b92bfaf"), looks := false }, kinds := [], alts := [], laidByText := true, laidKinds := [.data, .data], laidTests := true, laidLooks := .later }
def KindOrderUptoCardSaid : Prop := Claim7.holds Tryd.pinned (.plain (OpenSpec.upto kindOrderSpec)) kindOrderUptoCard

/-- THE SECOND FORM's CARD OF 'portolanlaw08.KindWays'. -/
def kindWaysUptoCard : Claim7 := { stood := { row := kindWaysUptoRow, standIns := [], harness := (true, "8d1d833a99d233ba33cd3d1bd675d2b82304705cf6ccdc91ba76525e1b92bfaf"), looks := false }, kinds := [], alts := [], laidByText := true, laidKinds := [.data, .data], laidTests := true, laidLooks := .later }
def KindWaysUptoCardSaid : Prop := Claim7.holds Tryd.pinned (.plain (OpenSpec.upto kindWaysSpec)) kindWaysUptoCard
end Rows
end Go.Proofs.YtmceiidhhpcjkaaDoor
