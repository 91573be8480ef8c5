/-
  NARROWER THAN 'FOR EVERY INPUT', by the rows' own cells (each row's printed sentence says how): ShapeChecks: laid · ShapeIns: laid · ShapeLasts: laid · ShapeFirst: laid · ShapeBytes: laid · EdgeNone: laid.
  DERIVED. THE GIVEN ROWS OF THIS SEAT. 6 by the template 'for every input the law returns true; each argument reads behind the call as it read before'; 0 by the template 'total and deterministic' (their statements: YtcbbchfhfacbdaaDoorTotals.lean).
  GIVEN WITH THE SEED: the statements are not yours to turn. If you find one false, say at which input.
  Laid BY PROGRAM, IN A SANDBOX (cutbox-rows.mjs): the forced cells as the released guide's own fill.sh prints them over the translation e5c112509ca7d10a… (all of the seat's roots in one cut). By AI agents, Wed Nov 11 2026. No macro, syntax, notation, axiom, sorry.
-/
import Derived.Test.YtcbbchfhfacbdaaDoorChecked
import GoSem.Claim
import GoSem.ClaimJoined
import GoSem.ClaimMapViews
import Derived.JoinedTies
import Derived.KernelRfl
namespace Go.Proofs.YtcbbchfhfacbdaaDoor
/- THE CELL 'sum', in the pinned program and in every row, IS THE sha256 OF THE DUMP (.gsa) THAT YtcbbchfhfacbdaaDoorProg.lean LOADS. Nothing in Lean hashes anything: it is a label: what it is worth is what the hold of that sum in a sandbox is worth. -/
noncomputable def Tryd.pinned : Pinned := { name := "ytcbbchfhfacbdaadoor", sum := "e5c112509ca7d10abe31244c2240197e71f7aec3f4161a7d00e3524df33d60d9", checked := Tryd.checked }
namespace Rows
def none {H : Type} : Left H := { results := [], args := [] }

/- WHAT THE LISTED PACKAGE-LEVEL VARIABLES READ AS WHEN THE CALL BEGINS. Each datum BY PROGRAM (the guide's laid-datum.mjs) off the statement by which the dump's own 'gosem.cut.vars' lays the variable. In a bare row this is a premise. The card (YtcbbchfhfacbdaaDoorCards.lean) ties it to the program's text. -/
def laid_portolan_code_parts {H : Type} : DataW H := .agg [.lit (.string []), .lit (.string [68, 110]), .lit (.string [68, 65]), .lit (.string [68, 65, 66]), .lit (.string [68, 65, 66]), .lit (.string [68, 65, 66]), .lit (.string [68, 65, 66]), .lit (.string [68]), .lit (.string [68, 65]), .lit (.string [68, 65, 66]), .lit (.string [68, 78, 77]), .lit (.string [68, 65, 78]), .lit (.string [65, 78, 66]), .lit (.string [68, 65, 78]), .lit (.string [65, 78, 66]), .lit (.string [68, 65, 78]), .lit (.string [68, 65, 110]), .lit (.string [68, 65]), .lit (.string [65, 66]), .lit (.string [68, 78, 76]), .lit (.string [65]), .lit (.string [78]), .lit (.string [65, 78, 77]), .lit (.string [65])]

/-- 'portolanlaw04.ShapeChecks': WHATEVER THE INPUT: true; the input reads as it did. -/
def shapeChecksSpec : ChangeSpec := { name := "shapeChecks", fn := fun _ => fun
  | [d] => { results := [.lit (.bool true)], args := [d] }
  | _ => none }
def shapeChecksRow : OpenClaim := { program := "ytcbbchfhfacbdaadoor", sum := "e5c112509ca7d10abe31244c2240197e71f7aec3f4161a7d00e3524df33d60d9", func := "portolan/portolanlaw04.ShapeChecks", spec := "shapeChecks", inPlace := ["internal/bytealg.IndexByteString"], unfollowed := true, recurses := true, named := ["portolan/code.parts"], apart := false, laid := [("portolan/code.parts", laid_portolan_code_parts)] }
def ShapeChecksSaid : Prop := shapeChecksRow.holds Tryd.pinned (OpenSpec.ofChange shapeChecksSpec)

/-- ITS FALSE NEIGHBOUR: 'it returns false'. Refute it at one input. -/
def shapeChecksWrong : ChangeSpec := { name := "shapeChecks", fn := fun _ => fun
  | [d] => { results := [.lit (.bool false)], args := [d] }
  | _ => none }
def ShapeChecksWrongFalsely : Prop := shapeChecksRow.holds Tryd.pinned (OpenSpec.ofChange shapeChecksWrong)

/-- 'portolanlaw04.ShapeIns': WHATEVER THE INPUT: true; the input reads as it did. -/
def shapeInsSpec : ChangeSpec := { name := "shapeIns", fn := fun _ => fun
  | [d1, d2, d3] => { results := [.lit (.bool true)], args := [d1, d2, d3] }
  | _ => none }
def shapeInsRow : OpenClaim := { program := "ytcbbchfhfacbdaadoor", sum := "e5c112509ca7d10abe31244c2240197e71f7aec3f4161a7d00e3524df33d60d9", func := "portolan/portolanlaw04.ShapeIns", spec := "shapeIns", inPlace := ["internal/bytealg.IndexByteString"], unfollowed := true, recurses := true, named := ["portolan/code.parts"], apart := false, laid := [("portolan/code.parts", laid_portolan_code_parts)] }
def ShapeInsSaid : Prop := shapeInsRow.holds Tryd.pinned (OpenSpec.ofChange shapeInsSpec)

/-- ITS FALSE NEIGHBOUR: 'it returns false'. Refute it at one input. -/
def shapeInsWrong : ChangeSpec := { name := "shapeIns", fn := fun _ => fun
  | [d1, d2, d3] => { results := [.lit (.bool false)], args := [d1, d2, d3] }
  | _ => none }
def ShapeInsWrongFalsely : Prop := shapeInsRow.holds Tryd.pinned (OpenSpec.ofChange shapeInsWrong)

/-- 'portolanlaw04.ShapeLasts': WHATEVER THE INPUT: true; the input reads as it did. -/
def shapeLastsSpec : ChangeSpec := { name := "shapeLasts", fn := fun _ => fun
  | [d] => { results := [.lit (.bool true)], args := [d] }
  | _ => none }
def shapeLastsRow : OpenClaim := { program := "ytcbbchfhfacbdaadoor", sum := "e5c112509ca7d10abe31244c2240197e71f7aec3f4161a7d00e3524df33d60d9", func := "portolan/portolanlaw04.ShapeLasts", spec := "shapeLasts", inPlace := ["internal/bytealg.IndexByteString"], unfollowed := true, recurses := true, named := ["portolan/code.parts"], apart := false, laid := [("portolan/code.parts", laid_portolan_code_parts)] }
def ShapeLastsSaid : Prop := shapeLastsRow.holds Tryd.pinned (OpenSpec.ofChange shapeLastsSpec)

/-- ITS FALSE NEIGHBOUR: 'it returns false'. Refute it at one input. -/
def shapeLastsWrong : ChangeSpec := { name := "shapeLasts", fn := fun _ => fun
  | [d] => { results := [.lit (.bool false)], args := [d] }
  | _ => none }
def ShapeLastsWrongFalsely : Prop := shapeLastsRow.holds Tryd.pinned (OpenSpec.ofChange shapeLastsWrong)

/-- 'portolanlaw04.ShapeFirst': WHATEVER THE INPUT: true; the input reads as it did. -/
def shapeFirstSpec : ChangeSpec := { name := "shapeFirst", fn := fun _ => fun
  | [d] => { results := [.lit (.bool true)], args := [d] }
  | _ => none }
def shapeFirstRow : OpenClaim := { program := "ytcbbchfhfacbdaadoor", sum := "e5c112509ca7d10abe31244c2240197e71f7aec3f4161a7d00e3524df33d60d9", func := "portolan/portolanlaw04.ShapeFirst", spec := "shapeFirst", inPlace := ["internal/bytealg.IndexByteString"], unfollowed := true, recurses := true, named := ["portolan/code.parts"], apart := false, laid := [("portolan/code.parts", laid_portolan_code_parts)] }
def ShapeFirstSaid : Prop := shapeFirstRow.holds Tryd.pinned (OpenSpec.ofChange shapeFirstSpec)

/-- ITS FALSE NEIGHBOUR: 'it returns false'. Refute it at one input. -/
def shapeFirstWrong : ChangeSpec := { name := "shapeFirst", fn := fun _ => fun
  | [d] => { results := [.lit (.bool false)], args := [d] }
  | _ => none }
def ShapeFirstWrongFalsely : Prop := shapeFirstRow.holds Tryd.pinned (OpenSpec.ofChange shapeFirstWrong)

/-- 'portolanlaw04.ShapeBytes': WHATEVER THE INPUT: true; the input reads as it did. -/
def shapeBytesSpec : ChangeSpec := { name := "shapeBytes", fn := fun _ => fun
  | [d] => { results := [.lit (.bool true)], args := [d] }
  | _ => none }
def shapeBytesRow : OpenClaim := { program := "ytcbbchfhfacbdaadoor", sum := "e5c112509ca7d10abe31244c2240197e71f7aec3f4161a7d00e3524df33d60d9", func := "portolan/portolanlaw04.ShapeBytes", spec := "shapeBytes", inPlace := ["internal/bytealg.IndexByteString"], unfollowed := true, recurses := true, named := ["portolan/code.parts"], apart := false, laid := [("portolan/code.parts", laid_portolan_code_parts)] }
def ShapeBytesSaid : Prop := shapeBytesRow.holds Tryd.pinned (OpenSpec.ofChange shapeBytesSpec)

/-- ITS FALSE NEIGHBOUR: 'it returns false'. Refute it at one input. -/
def shapeBytesWrong : ChangeSpec := { name := "shapeBytes", fn := fun _ => fun
  | [d] => { results := [.lit (.bool false)], args := [d] }
  | _ => none }
def ShapeBytesWrongFalsely : Prop := shapeBytesRow.holds Tryd.pinned (OpenSpec.ofChange shapeBytesWrong)

/-- 'portolanlaw13.EdgeNone': WHATEVER THE INPUT: true; the input reads as it did. -/
def edgeNoneSpec : ChangeSpec := { name := "edgeNone", fn := fun _ => fun
  | [d] => { results := [.lit (.bool true)], args := [d] }
  | _ => none }
def edgeNoneRow : OpenClaim := { program := "ytcbbchfhfacbdaadoor", sum := "e5c112509ca7d10abe31244c2240197e71f7aec3f4161a7d00e3524df33d60d9", func := "portolan/portolanlaw13.EdgeNone", spec := "edgeNone", inPlace := ["internal/bytealg.IndexByteString"], unfollowed := true, recurses := true, named := ["portolan/code.parts"], apart := false, laid := [("portolan/code.parts", laid_portolan_code_parts)] }
def EdgeNoneSaid : Prop := edgeNoneRow.holds Tryd.pinned (OpenSpec.ofChange edgeNoneSpec)

/-- ITS FALSE NEIGHBOUR: 'it returns false'. Refute it at one input. -/
def edgeNoneWrong : ChangeSpec := { name := "edgeNone", fn := fun _ => fun
  | [d] => { results := [.lit (.bool false)], args := [d] }
  | _ => none }
def EdgeNoneWrongFalsely : Prop := edgeNoneRow.holds Tryd.pinned (OpenSpec.ofChange edgeNoneWrong)

/- THE SECOND FORM. 'bulk': how many values and letters a reading holds, each counted each time it is reached (what is shared counts as often as it is met; a slice's spare places count too). A statement '..UptoSaid' is the law's where the arguments, and the package variables that the reading takes, are together of bulk at most 1048576: NARROWER than '..Said'. Prove '..Said' where nothing that the law and all that it calls make is longer than what came in: it says more and counts as full. Else prove '..UptoSaid'. A law counts once. -/
mutual
def uptoBulk {H : Type} : DataW H → Nat
  | .lit (.string bytes) => bytes.length + 1
  | .lit _ => 1
  | .nil => 1
  | .ptr d => uptoBulk d + 1
  | .slice elems spare => uptoBulkAll elems + uptoBulkAll spare + 1
  | .agg parts => uptoBulkAll parts + 1
  | .iface _ d => uptoBulk d + 1
  | .map entries => uptoBulkEntries entries + 1
  | .held _ => 1
def uptoBulkAll {H : Type} : List (DataW H) → Nat
  | [] => 0
  | d :: r => uptoBulk d + uptoBulkAll r
def uptoBulkEntries {H : Type} : List (Lit × DataW H) → Nat
  | [] => 0
  | x :: r => uptoBulkEntry x + uptoBulkEntries r
def uptoBulkEntry {H : Type} : Lit × DataW H → Nat
  | (.string bytes, d) => bytes.length + uptoBulk d + 1
  | (_, d) => uptoBulk d + 1
 end
def uptoSmall : (H : Type) → List (DataW H) → Bool := fun _ ds => decide (uptoBulkAll ds ≤ 1048576)
def OpenSpec.upto (s : _root_.Go.ChangeSpec) : _root_.Go.OpenSpec := { _root_.Go.OpenSpec.ofChange s with cond := some uptoSmall }

/-- 'portolanlaw04.ShapeChecks', WHERE WHAT IT READS IS OF BULK AT MOST 1048576: true; the input reads as it did. -/
def shapeChecksUptoRow : OpenClaim := { program := "ytcbbchfhfacbdaadoor", sum := "e5c112509ca7d10abe31244c2240197e71f7aec3f4161a7d00e3524df33d60d9", func := "portolan/portolanlaw04.ShapeChecks", spec := "shapeChecks", inPlace := ["internal/bytealg.IndexByteString"], unfollowed := true, recurses := true, named := ["portolan/code.parts"], apart := false, laid := [("portolan/code.parts", laid_portolan_code_parts)], narrowed := true }
def ShapeChecksUptoSaid : Prop := shapeChecksUptoRow.holds Tryd.pinned (OpenSpec.upto shapeChecksSpec)

/-- 'portolanlaw04.ShapeIns', WHERE WHAT IT READS IS OF BULK AT MOST 1048576: true; the input reads as it did. -/
def shapeInsUptoRow : OpenClaim := { program := "ytcbbchfhfacbdaadoor", sum := "e5c112509ca7d10abe31244c2240197e71f7aec3f4161a7d00e3524df33d60d9", func := "portolan/portolanlaw04.ShapeIns", spec := "shapeIns", inPlace := ["internal/bytealg.IndexByteString"], unfollowed := true, recurses := true, named := ["portolan/code.parts"], apart := false, laid := [("portolan/code.parts", laid_portolan_code_parts)], narrowed := true }
def ShapeInsUptoSaid : Prop := shapeInsUptoRow.holds Tryd.pinned (OpenSpec.upto shapeInsSpec)

/-- 'portolanlaw04.ShapeLasts', WHERE WHAT IT READS IS OF BULK AT MOST 1048576: true; the input reads as it did. -/
def shapeLastsUptoRow : OpenClaim := { program := "ytcbbchfhfacbdaadoor", sum := "e5c112509ca7d10abe31244c2240197e71f7aec3f4161a7d00e3524df33d60d9", func := "portolan/portolanlaw04.ShapeLasts", spec := "shapeLasts", inPlace := ["internal/bytealg.IndexByteString"], unfollowed := true, recurses := true, named := ["portolan/code.parts"], apart := false, laid := [("portolan/code.parts", laid_portolan_code_parts)], narrowed := true }
def ShapeLastsUptoSaid : Prop := shapeLastsUptoRow.holds Tryd.pinned (OpenSpec.upto shapeLastsSpec)

/-- 'portolanlaw04.ShapeFirst', WHERE WHAT IT READS IS OF BULK AT MOST 1048576: true; the input reads as it did. -/
def shapeFirstUptoRow : OpenClaim := { program := "ytcbbchfhfacbdaadoor", sum := "e5c112509ca7d10abe31244c2240197e71f7aec3f4161a7d00e3524df33d60d9", func := "portolan/portolanlaw04.ShapeFirst", spec := "shapeFirst", inPlace := ["internal/bytealg.IndexByteString"], unfollowed := true, recurses := true, named := ["portolan/code.parts"], apart := false, laid := [("portolan/code.parts", laid_portolan_code_parts)], narrowed := true }
def ShapeFirstUptoSaid : Prop := shapeFirstUptoRow.holds Tryd.pinned (OpenSpec.upto shapeFirstSpec)

/-- 'portolanlaw04.ShapeBytes', WHERE WHAT IT READS IS OF BULK AT MOST 1048576: true; the input reads as it did. -/
def shapeBytesUptoRow : OpenClaim := { program := "ytcbbchfhfacbdaadoor", sum := "e5c112509ca7d10abe31244c2240197e71f7aec3f4161a7d00e3524df33d60d9", func := "portolan/portolanlaw04.ShapeBytes", spec := "shapeBytes", inPlace := ["internal/bytealg.IndexByteString"], unfollowed := true, recurses := true, named := ["portolan/code.parts"], apart := false, laid := [("portolan/code.parts", laid_portolan_code_parts)], narrowed := true }
def ShapeBytesUptoSaid : Prop := shapeBytesUptoRow.holds Tryd.pinned (OpenSpec.upto shapeBytesSpec)

/-- 'portolanlaw13.EdgeNone', WHERE WHAT IT READS IS OF BULK AT MOST 1048576: true; the input reads as it did. -/
def edgeNoneUptoRow : OpenClaim := { program := "ytcbbchfhfacbdaadoor", sum := "e5c112509ca7d10abe31244c2240197e71f7aec3f4161a7d00e3524df33d60d9", func := "portolan/portolanlaw13.EdgeNone", spec := "edgeNone", inPlace := ["internal/bytealg.IndexByteString"], unfollowed := true, recurses := true, named := ["portolan/code.parts"], apart := false, laid := [("portolan/code.parts", laid_portolan_code_parts)], narrowed := true }
def EdgeNoneUptoSaid : Prop := edgeNoneUptoRow.holds Tryd.pinned (OpenSpec.upto edgeNoneSpec)

end Rows
end Go.Proofs.YtcbbchfhfacbdaaDoor
