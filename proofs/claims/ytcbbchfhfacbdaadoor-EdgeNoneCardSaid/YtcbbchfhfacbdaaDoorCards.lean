/-
  DERIVED. GIVEN WITH THE SEED: THE CARDS: each row of YtcbbchfhfacbdaaDoorRows.lean that lists a variable, with what it lists TIED to the program's text (the seventh form; the later family's looks); each row that meets fmt, with fmt's text TOLD by the authors' own Lean function (tested against real Go, not proved from fmt's source: count such statements apart). THE CARD IS WHAT COUNTS. Prove the row's statement (the work); the ties are given (YtcbbchfhfacbdaaDoorTie.lean); close each card by the builder's one call (the guide's Derived/Test/ToyasCard.lean, 'card_holds'). Laid BY PROGRAM, IN A SANDBOX (cutbox-door.mjs). By AI agents, Wed Nov 11 2026. No macro, syntax, notation, axiom, sorry.
-/
import Derived.Test.YtcbbchfhfacbdaaDoorRows
import GoSem.ClaimSeven
namespace Go.Proofs.YtcbbchfhfacbdaaDoor
namespace Rows

/-- THE TIED CARD OF 'portolanlaw04.ShapeChecks'. -/
def shapeChecksCard : Claim7 := { stood := { row := shapeChecksRow, standIns := [], harness := (true, "b0dee317d60640527c93b4784b08d9831aed5561d896ba6bcaf2996e64d196e4"), looks := false }, kinds := [], alts := [], laidByText := true, laidKinds := [.data], laidTests := true, laidLooks := .later }
def ShapeChecksCardSaid : Prop := Claim7.holds Tryd.pinned (.plain (OpenSpec.ofChange shapeChecksSpec)) shapeChecksCard

/-- THE TIED CARD OF 'portolanlaw04.ShapeIns'. -/
def shapeInsCard : Claim7 := { stood := { row := shapeInsRow, standIns := [], harness := (true, "b0dee317d60640527c93b4784b08d9831aed5561d896ba6bcaf2996e64d196e4"), looks := false }, kinds := [], alts := [], laidByText := true, laidKinds := [.data], laidTests := true, laidLooks := .later }
def ShapeInsCardSaid : Prop := Claim7.holds Tryd.pinned (.plain (OpenSpec.ofChange shapeInsSpec)) shapeInsCard

/-- THE TIED CARD OF 'portolanlaw04.ShapeLasts'. -/
def shapeLastsCard : Claim7 := { stood := { row := shapeLastsRow, standIns := [], harness := (true, "b0dee317d60640527c93b4784b08d9831aed5561d896ba6bcaf2996e64d196e4"), looks := false }, kinds := [], alts := [], laidByText := true, laidKinds := [.data], laidTests := true, laidLooks := .later }
def ShapeLastsCardSaid : Prop := Claim7.holds Tryd.pinned (.plain (OpenSpec.ofChange shapeLastsSpec)) shapeLastsCard

/-- THE TIED CARD OF 'portolanlaw04.ShapeFirst'. -/
def shapeFirstCard : Claim7 := { stood := { row := shapeFirstRow, standIns := [], harness := (true, "b0dee317d60640527c93b4784b08d9831aed5561d896ba6bcaf2996e64d196e4"), looks := false }, kinds := [], alts := [], laidByText := true, laidKinds := [.data], laidTests := true, laidLooks := .later }
def ShapeFirstCardSaid : Prop := Claim7.holds Tryd.pinned (.plain (OpenSpec.ofChange shapeFirstSpec)) shapeFirstCard

/-- THE TIED CARD OF 'portolanlaw04.ShapeBytes'. -/
def shapeBytesCard : Claim7 := { stood := { row := shapeBytesRow, standIns := [], harness := (true, "b0dee317d60640527c93b4784b08d9831aed5561d896ba6bcaf2996e64d196e4"), looks := false }, kinds := [], alts := [], laidByText := true, laidKinds := [.data], laidTests := true, laidLooks := .later }
def ShapeBytesCardSaid : Prop := Claim7.holds Tryd.pinned (.plain (OpenSpec.ofChange shapeBytesSpec)) shapeBytesCard

/-- THE TIED CARD OF 'portolanlaw13.EdgeNone'. -/
def edgeNoneCard : Claim7 := { stood := { row := edgeNoneRow, standIns := [], harness := (true, "b0dee317d60640527c93b4784b08d9831aed5561d896ba6bcaf2996e64d196e4"), looks := false }, kinds := [], alts := [], laidByText := true, laidKinds := [.data], laidTests := true, laidLooks := .later }
def EdgeNoneCardSaid : Prop := Claim7.holds Tryd.pinned (.plain (OpenSpec.ofChange edgeNoneSpec)) edgeNoneCard

/-- THE SECOND FORM's CARD OF 'portolanlaw04.ShapeChecks'. -/
def shapeChecksUptoCard : Claim7 := { stood := { row := shapeChecksUptoRow, standIns := [], harness := (true, "b0dee317d60640527c93b4784b08d9831aed5561d896ba6bcaf2996e64d196e4"), looks := false }, kinds := [], alts := [], laidByText := true, laidKinds := [.data], laidTests := true, laidLooks := .later }
def ShapeChecksUptoCardSaid : Prop := Claim7.holds Tryd.pinned (.plain (OpenSpec.upto shapeChecksSpec)) shapeChecksUptoCard

/-- THE SECOND FORM's CARD OF 'portolanlaw04.ShapeIns'. -/
def shapeInsUptoCard : Claim7 := { stood := { row := shapeInsUptoRow, standIns := [], harness := (true, "b0dee317d60640527c93b4784b08d9831aed5561d896ba6bcaf2996e64d196e4"), looks := false }, kinds := [], alts := [], laidByText := true, laidKinds := [.data], laidTests := true, laidLooks := .later }
def ShapeInsUptoCardSaid : Prop := Claim7.holds Tryd.pinned (.plain (OpenSpec.upto shapeInsSpec)) shapeInsUptoCard

/-- THE SECOND FORM's CARD OF 'portolanlaw04.ShapeLasts'. -/
def shapeLastsUptoCard : Claim7 := { stood := { row := shapeLastsUptoRow, standIns := [], harness := (true, "b0dee317d60640527c93b4784b08d9831aed5561d896ba6bcaf2996e64d196e4"), looks := false }, kinds := [], alts := [], laidByText := true, laidKinds := [.data], laidTests := true, laidLooks := .later }
def ShapeLastsUptoCardSaid : Prop := Claim7.holds Tryd.pinned (.plain (OpenSpec.upto shapeLastsSpec)) shapeLastsUptoCard

/-- THE SECOND FORM's CARD OF 'portolanlaw04.ShapeFirst'. -/
def shapeFirstUptoCard : Claim7 := { stood := { row := shapeFirstUptoRow, standIns := [], harness := (true, "b0dee317d60640527c93b4784b08d9831aed5561d896ba6bcaf2996e64d196e4"), looks := false }, kinds := [], alts := [], laidByText := true, laidKinds := [.data], laidTests := true, laidLooks := .later }
def ShapeFirstUptoCardSaid : Prop := Claim7.holds Tryd.pinned (.plain (OpenSpec.upto shapeFirstSpec)) shapeFirstUptoCard

/-- THE SECOND FORM's CARD OF 'portolanlaw04.ShapeBytes'. -/
def shapeBytesUptoCard : Claim7 := { stood := { row := shapeBytesUptoRow, standIns := [], harness := (true, "b0dee317d60640527c93b4784b08d9831aed5561d896ba6bcaf2996e64d196e4"), looks := false }, kinds := [], alts := [], laidByText := true, laidKinds := [.data], laidTests := true, laidLooks := .later }
def ShapeBytesUptoCardSaid : Prop := Claim7.holds Tryd.pinned (.plain (OpenSpec.upto shapeBytesSpec)) shapeBytesUptoCard

/-- THE SECOND FORM's CARD OF 'portolanlaw13.EdgeNone'. -/
def edgeNoneUptoCard : Claim7 := { stood := { row := edgeNoneUptoRow, standIns := [], harness := (true, "b0dee317d60640527c93b4784b08d9831aed5561d896ba6bcaf2996e64d196e4"), looks := false }, kinds := [], alts := [], laidByText := true, laidKinds := [.data], laidTests := true, laidLooks := .later }
def EdgeNoneUptoCardSaid : Prop := Claim7.holds Tryd.pinned (.plain (OpenSpec.upto edgeNoneSpec)) edgeNoneUptoCard
end Rows
end Go.Proofs.YtcbbchfhfacbdaaDoor
