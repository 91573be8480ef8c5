/-
  NARROWER THAN 'FOR EVERY INPUT', by the rows' own cells (each row's printed sentence says how): TextEncodes: laid · TextDecodes: laid · TextBack: laid · TextOnce: laid · TextIn: laid.
  DERIVED. THE GIVEN ROWS OF THIS SEAT. 5 by the template 'for every input the law returns true; each argument reads behind the call as it read before'; 0 by the template 'total and deterministic' (their statements: YtkjhkbolchkkhaaDoorTotals.lean).
  GIVEN WITH THE SEED: the statements are not yours to turn. If you find one false, say at which input.
  Laid BY PROGRAM, IN A SANDBOX (cutbox-rows.mjs): the forced cells as the released guide's own fill.sh prints them over the translation b76a39b79ec2981f… (all of the seat's roots in one cut). By AI agents, Wed Nov 11 2026. No macro, syntax, notation, axiom, sorry.
-/
import Derived.Test.YtkjhkbolchkkhaaDoorChecked
import GoSem.Claim
import GoSem.ClaimJoined
import GoSem.ClaimMapViews
import Derived.JoinedTies
import Derived.KernelRfl
namespace Go.Proofs.YtkjhkbolchkkhaaDoor
/- THE CELL 'sum', in the pinned program and in every row, IS THE sha256 OF THE DUMP (.gsa) THAT YtkjhkbolchkkhaaDoorProg.lean LOADS. Nothing in Lean hashes anything: it is a label: what it is worth is what the hold of that sum in a sandbox is worth. -/
noncomputable def Tryd.pinned : Pinned := { name := "ytkjhkbolchkkhaadoor", sum := "b76a39b79ec2981f5432504a965b21231cf6297b003054f688f663268b423f99", checked := Tryd.checked }
namespace Rows
def none {H : Type} : Left H := { results := [], args := [] }

/- WHAT THE LISTED PACKAGE-LEVEL VARIABLES READ AS WHEN THE CALL BEGINS. Each datum BY PROGRAM (the guide's laid-datum.mjs) off the statement by which the dump's own 'gosem.cut.vars' lays the variable. In a bare row this is a premise. The card (YtkjhkbolchkkhaaDoorCards.lean) ties it to the program's text. -/
def laid_portolan_code_parts {H : Type} : DataW H := .agg [.lit (.string []), .lit (.string [68, 110]), .lit (.string [68, 65]), .lit (.string [68, 65, 66]), .lit (.string [68, 65, 66]), .lit (.string [68, 65, 66]), .lit (.string [68, 65, 66]), .lit (.string [68]), .lit (.string [68, 65]), .lit (.string [68, 65, 66]), .lit (.string [68, 78, 77]), .lit (.string [68, 65, 78]), .lit (.string [65, 78, 66]), .lit (.string [68, 65, 78]), .lit (.string [65, 78, 66]), .lit (.string [68, 65, 78]), .lit (.string [68, 65, 110]), .lit (.string [68, 65]), .lit (.string [65, 66]), .lit (.string [68, 78, 76]), .lit (.string [65]), .lit (.string [78]), .lit (.string [65, 78, 77]), .lit (.string [65])]

/-- 'portolanlaw19.TextEncodes': WHATEVER THE INPUT: true; the input reads as it did. -/
def textEncodesSpec : ChangeSpec := { name := "textEncodes", fn := fun _ => fun
  | [d1, d2, d3] => { results := [.lit (.bool true)], args := [d1, d2, d3] }
  | _ => none }
def textEncodesRow : OpenClaim := { program := "ytkjhkbolchkkhaadoor", sum := "b76a39b79ec2981f5432504a965b21231cf6297b003054f688f663268b423f99", func := "portolan/portolanlaw19.TextEncodes", spec := "textEncodes", inPlace := ["internal/bytealg.IndexByteString"], unfollowed := true, recurses := true, named := ["portolan/code.parts"], apart := false, laid := [("portolan/code.parts", laid_portolan_code_parts)] }
def TextEncodesSaid : Prop := textEncodesRow.holds Tryd.pinned (OpenSpec.ofChange textEncodesSpec)

/-- ITS FALSE NEIGHBOUR: 'it returns false'. Refute it at one input. -/
def textEncodesWrong : ChangeSpec := { name := "textEncodes", fn := fun _ => fun
  | [d1, d2, d3] => { results := [.lit (.bool false)], args := [d1, d2, d3] }
  | _ => none }
def TextEncodesWrongFalsely : Prop := textEncodesRow.holds Tryd.pinned (OpenSpec.ofChange textEncodesWrong)

/-- 'portolanlaw19.TextDecodes': WHATEVER THE INPUT: true; the input reads as it did. -/
def textDecodesSpec : ChangeSpec := { name := "textDecodes", fn := fun _ => fun
  | [d] => { results := [.lit (.bool true)], args := [d] }
  | _ => none }
def textDecodesRow : OpenClaim := { program := "ytkjhkbolchkkhaadoor", sum := "b76a39b79ec2981f5432504a965b21231cf6297b003054f688f663268b423f99", func := "portolan/portolanlaw19.TextDecodes", spec := "textDecodes", inPlace := ["internal/bytealg.IndexByteString"], unfollowed := true, recurses := true, named := ["portolan/code.parts"], apart := false, laid := [("portolan/code.parts", laid_portolan_code_parts)] }
def TextDecodesSaid : Prop := textDecodesRow.holds Tryd.pinned (OpenSpec.ofChange textDecodesSpec)

/-- ITS FALSE NEIGHBOUR: 'it returns false'. Refute it at one input. -/
def textDecodesWrong : ChangeSpec := { name := "textDecodes", fn := fun _ => fun
  | [d] => { results := [.lit (.bool false)], args := [d] }
  | _ => none }
def TextDecodesWrongFalsely : Prop := textDecodesRow.holds Tryd.pinned (OpenSpec.ofChange textDecodesWrong)

/-- 'portolanlaw19.TextBack': WHATEVER THE INPUT: true; the input reads as it did. -/
def textBackSpec : ChangeSpec := { name := "textBack", fn := fun _ => fun
  | [d1, d2] => { results := [.lit (.bool true)], args := [d1, d2] }
  | _ => none }
def textBackRow : OpenClaim := { program := "ytkjhkbolchkkhaadoor", sum := "b76a39b79ec2981f5432504a965b21231cf6297b003054f688f663268b423f99", func := "portolan/portolanlaw19.TextBack", spec := "textBack", inPlace := ["internal/bytealg.IndexByteString"], unfollowed := true, recurses := true, named := ["portolan/code.parts"], apart := false, laid := [("portolan/code.parts", laid_portolan_code_parts)] }
def TextBackSaid : Prop := textBackRow.holds Tryd.pinned (OpenSpec.ofChange textBackSpec)

/-- ITS FALSE NEIGHBOUR: 'it returns false'. Refute it at one input. -/
def textBackWrong : ChangeSpec := { name := "textBack", fn := fun _ => fun
  | [d1, d2] => { results := [.lit (.bool false)], args := [d1, d2] }
  | _ => none }
def TextBackWrongFalsely : Prop := textBackRow.holds Tryd.pinned (OpenSpec.ofChange textBackWrong)

/-- 'portolanlaw19.TextOnce': WHATEVER THE INPUT: true; the input reads as it did. -/
def textOnceSpec : ChangeSpec := { name := "textOnce", fn := fun _ => fun
  | [d1, d2, d3] => { results := [.lit (.bool true)], args := [d1, d2, d3] }
  | _ => none }
def textOnceRow : OpenClaim := { program := "ytkjhkbolchkkhaadoor", sum := "b76a39b79ec2981f5432504a965b21231cf6297b003054f688f663268b423f99", func := "portolan/portolanlaw19.TextOnce", spec := "textOnce", inPlace := ["internal/bytealg.IndexByteString"], unfollowed := true, recurses := true, named := ["portolan/code.parts"], apart := false, laid := [("portolan/code.parts", laid_portolan_code_parts)] }
def TextOnceSaid : Prop := textOnceRow.holds Tryd.pinned (OpenSpec.ofChange textOnceSpec)

/-- ITS FALSE NEIGHBOUR: 'it returns false'. Refute it at one input. -/
def textOnceWrong : ChangeSpec := { name := "textOnce", fn := fun _ => fun
  | [d1, d2, d3] => { results := [.lit (.bool false)], args := [d1, d2, d3] }
  | _ => none }
def TextOnceWrongFalsely : Prop := textOnceRow.holds Tryd.pinned (OpenSpec.ofChange textOnceWrong)

/-- 'portolanlaw19.TextIn': WHATEVER THE INPUT: true; the input reads as it did. -/
def textInSpec : ChangeSpec := { name := "textIn", fn := fun _ => fun
  | [d1, d2] => { results := [.lit (.bool true)], args := [d1, d2] }
  | _ => none }
def textInRow : OpenClaim := { program := "ytkjhkbolchkkhaadoor", sum := "b76a39b79ec2981f5432504a965b21231cf6297b003054f688f663268b423f99", func := "portolan/portolanlaw19.TextIn", spec := "textIn", inPlace := ["internal/bytealg.IndexByteString"], unfollowed := true, recurses := true, named := ["portolan/code.parts"], apart := false, laid := [("portolan/code.parts", laid_portolan_code_parts)] }
def TextInSaid : Prop := textInRow.holds Tryd.pinned (OpenSpec.ofChange textInSpec)

/-- ITS FALSE NEIGHBOUR: 'it returns false'. Refute it at one input. -/
def textInWrong : ChangeSpec := { name := "textIn", fn := fun _ => fun
  | [d1, d2] => { results := [.lit (.bool false)], args := [d1, d2] }
  | _ => none }
def TextInWrongFalsely : Prop := textInRow.holds Tryd.pinned (OpenSpec.ofChange textInWrong)

/- THE SECOND FORM. 'bulk': how many values and letters a reading holds, each counted each time it is reached (what is shared counts as often as it is met; a slice's spare places count too). A statement '..UptoSaid' is the law's where the arguments, and the package variables that the reading takes, are together of bulk at most 1048576: NARROWER than '..Said'. Prove '..Said' where nothing that the law and all that it calls make is longer than what came in: it says more and counts as full. Else prove '..UptoSaid'. A law counts once. -/
mutual
def uptoBulk {H : Type} : DataW H → Nat
  | .lit (.string bytes) => bytes.length + 1
  | .lit _ => 1
  | .nil => 1
  | .ptr d => uptoBulk d + 1
  | .slice elems spare => uptoBulkAll elems + uptoBulkAll spare + 1
  | .agg parts => uptoBulkAll parts + 1
  | .iface _ d => uptoBulk d + 1
  | .map entries => uptoBulkEntries entries + 1
  | .held _ => 1
def uptoBulkAll {H : Type} : List (DataW H) → Nat
  | [] => 0
  | d :: r => uptoBulk d + uptoBulkAll r
def uptoBulkEntries {H : Type} : List (Lit × DataW H) → Nat
  | [] => 0
  | x :: r => uptoBulkEntry x + uptoBulkEntries r
def uptoBulkEntry {H : Type} : Lit × DataW H → Nat
  | (.string bytes, d) => bytes.length + uptoBulk d + 1
  | (_, d) => uptoBulk d + 1
 end
def uptoSmall : (H : Type) → List (DataW H) → Bool := fun _ ds => decide (uptoBulkAll ds ≤ 1048576)
def OpenSpec.upto (s : _root_.Go.ChangeSpec) : _root_.Go.OpenSpec := { _root_.Go.OpenSpec.ofChange s with cond := some uptoSmall }

/-- 'portolanlaw19.TextEncodes', WHERE WHAT IT READS IS OF BULK AT MOST 1048576: true; the input reads as it did. -/
def textEncodesUptoRow : OpenClaim := { program := "ytkjhkbolchkkhaadoor", sum := "b76a39b79ec2981f5432504a965b21231cf6297b003054f688f663268b423f99", func := "portolan/portolanlaw19.TextEncodes", spec := "textEncodes", inPlace := ["internal/bytealg.IndexByteString"], unfollowed := true, recurses := true, named := ["portolan/code.parts"], apart := false, laid := [("portolan/code.parts", laid_portolan_code_parts)], narrowed := true }
def TextEncodesUptoSaid : Prop := textEncodesUptoRow.holds Tryd.pinned (OpenSpec.upto textEncodesSpec)

/-- 'portolanlaw19.TextDecodes', WHERE WHAT IT READS IS OF BULK AT MOST 1048576: true; the input reads as it did. -/
def textDecodesUptoRow : OpenClaim := { program := "ytkjhkbolchkkhaadoor", sum := "b76a39b79ec2981f5432504a965b21231cf6297b003054f688f663268b423f99", func := "portolan/portolanlaw19.TextDecodes", spec := "textDecodes", inPlace := ["internal/bytealg.IndexByteString"], unfollowed := true, recurses := true, named := ["portolan/code.parts"], apart := false, laid := [("portolan/code.parts", laid_portolan_code_parts)], narrowed := true }
def TextDecodesUptoSaid : Prop := textDecodesUptoRow.holds Tryd.pinned (OpenSpec.upto textDecodesSpec)

/-- 'portolanlaw19.TextBack', WHERE WHAT IT READS IS OF BULK AT MOST 1048576: true; the input reads as it did. -/
def textBackUptoRow : OpenClaim := { program := "ytkjhkbolchkkhaadoor", sum := "b76a39b79ec2981f5432504a965b21231cf6297b003054f688f663268b423f99", func := "portolan/portolanlaw19.TextBack", spec := "textBack", inPlace := ["internal/bytealg.IndexByteString"], unfollowed := true, recurses := true, named := ["portolan/code.parts"], apart := false, laid := [("portolan/code.parts", laid_portolan_code_parts)], narrowed := true }
def TextBackUptoSaid : Prop := textBackUptoRow.holds Tryd.pinned (OpenSpec.upto textBackSpec)

/-- 'portolanlaw19.TextOnce', WHERE WHAT IT READS IS OF BULK AT MOST 1048576: true; the input reads as it did. -/
def textOnceUptoRow : OpenClaim := { program := "ytkjhkbolchkkhaadoor", sum := "b76a39b79ec2981f5432504a965b21231cf6297b003054f688f663268b423f99", func := "portolan/portolanlaw19.TextOnce", spec := "textOnce", inPlace := ["internal/bytealg.IndexByteString"], unfollowed := true, recurses := true, named := ["portolan/code.parts"], apart := false, laid := [("portolan/code.parts", laid_portolan_code_parts)], narrowed := true }
def TextOnceUptoSaid : Prop := textOnceUptoRow.holds Tryd.pinned (OpenSpec.upto textOnceSpec)

/-- 'portolanlaw19.TextIn', WHERE WHAT IT READS IS OF BULK AT MOST 1048576: true; the input reads as it did. -/
def textInUptoRow : OpenClaim := { program := "ytkjhkbolchkkhaadoor", sum := "b76a39b79ec2981f5432504a965b21231cf6297b003054f688f663268b423f99", func := "portolan/portolanlaw19.TextIn", spec := "textIn", inPlace := ["internal/bytealg.IndexByteString"], unfollowed := true, recurses := true, named := ["portolan/code.parts"], apart := false, laid := [("portolan/code.parts", laid_portolan_code_parts)], narrowed := true }
def TextInUptoSaid : Prop := textInUptoRow.holds Tryd.pinned (OpenSpec.upto textInSpec)

end Rows
end Go.Proofs.YtkjhkbolchkkhaaDoor
