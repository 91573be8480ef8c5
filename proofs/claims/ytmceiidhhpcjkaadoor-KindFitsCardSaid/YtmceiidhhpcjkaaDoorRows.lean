/-
  NARROWER THAN 'FOR EVERY INPUT', by the rows' own cells (each row's printed sentence says how): KindFits: laid · KindOrder: laid · KindWays: laid.
  DERIVED. THE GIVEN ROWS OF THIS SEAT. 3 by the template 'for every input the law returns true; each argument reads behind the call as it read before'; 0 by the template 'total and deterministic' (their statements: YtmceiidhhpcjkaaDoorTotals.lean).
  GIVEN WITH THE SEED: the statements are not yours to turn. If you find one false, say at which input.
  Laid BY PROGRAM, IN A SANDBOX (cutbox-rows.mjs): the forced cells as the released guide's own fill.sh prints them over the translation 9b9ee640af611388… (all of the seat's roots in one cut). By AI agents, Wed Nov 11 2026. No macro, syntax, notation, axiom, sorry.
-/
import Derived.Test.YtmceiidhhpcjkaaDoorChecked
import GoSem.Claim
import GoSem.ClaimJoined
import GoSem.ClaimMapViews
import Derived.JoinedTies
import Derived.KernelRfl
namespace Go.Proofs.YtmceiidhhpcjkaaDoor
/- THE CELL 'sum', in the pinned program and in every row, IS THE sha256 OF THE DUMP (.gsa) THAT YtmceiidhhpcjkaaDoorProg.lean LOADS. Nothing in Lean hashes anything: it is a label: what it is worth is what the hold of that sum in a sandbox is worth. -/
noncomputable def Tryd.pinned : Pinned := { name := "ytmceiidhhpcjkaadoor", sum := "9b9ee640af6113884d9634d105859214e1a80306855ae3ba55a9805020d26de3", checked := Tryd.checked }
namespace Rows
def none {H : Type} : Left H := { results := [], args := [] }

/- WHAT THE LISTED PACKAGE-LEVEL VARIABLES READ AS WHEN THE CALL BEGINS. Each datum BY PROGRAM (the guide's laid-datum.mjs) off the statement by which the dump's own 'gosem.cut.vars' lays the variable. In a bare row this is a premise. The card (YtmceiidhhpcjkaaDoorCards.lean) ties it to the program's text. -/
def laid_portolan_code_parts {H : Type} : DataW H := .agg [.lit (.string []), .lit (.string [68, 110]), .lit (.string [68, 65]), .lit (.string [68, 65, 66]), .lit (.string [68, 65, 66]), .lit (.string [68, 65, 66]), .lit (.string [68, 65, 66]), .lit (.string [68]), .lit (.string [68, 65]), .lit (.string [68, 65, 66]), .lit (.string [68, 78, 77]), .lit (.string [68, 65, 78]), .lit (.string [65, 78, 66]), .lit (.string [68, 65, 78]), .lit (.string [65, 78, 66]), .lit (.string [68, 65, 78]), .lit (.string [68, 65, 110]), .lit (.string [68, 65]), .lit (.string [65, 66]), .lit (.string [68, 78, 76]), .lit (.string [65]), .lit (.string [78]), .lit (.string [65, 78, 77]), .lit (.string [65])]
def laid_portolan_kind_rows {H : Type} : DataW H := .agg [.agg [.lit (.int .i64 0), .lit (.int .i64 0), .lit (.int .i64 0)], .agg [.lit (.int .i64 0), .lit (.int .i64 (-1)), .lit (.int .i64 (-1))], .agg [.lit (.int .i64 (-1)), .lit (.int .i64 (-1)), .lit (.int .i64 (-1))], .agg [.lit (.int .i64 0), .lit (.int .i64 0), .lit (.int .i64 0)], .agg [.lit (.int .i64 0), .lit (.int .i64 0), .lit (.int .i64 0)], .agg [.lit (.int .i64 0), .lit (.int .i64 0), .lit (.int .i64 0)], .agg [.lit (.int .i64 0), .lit (.int .i64 0), .lit (.int .i64 0)], .agg [.lit (.int .i64 1), .lit (.int .i64 (-1)), .lit (.int .i64 (-1))], .agg [.lit (.int .i64 0), .lit (.int .i64 1), .lit (.int .i64 (-1))], .agg [.lit (.int .i64 0), .lit (.int .i64 1), .lit (.int .i64 1)], .agg [.lit (.int .i64 1), .lit (.int .i64 (-1)), .lit (.int .i64 (-1))], .agg [.lit (.int .i64 0), .lit (.int .i64 1), .lit (.int .i64 (-1))], .agg [.lit (.int .i64 (-1)), .lit (.int .i64 1), .lit (.int .i64 0)], .agg [.lit (.int .i64 1), .lit (.int .i64 1), .lit (.int .i64 (-1))], .agg [.lit (.int .i64 (-1)), .lit (.int .i64 1), .lit (.int .i64 1)], .agg [.lit (.int .i64 2), .lit (.int .i64 1), .lit (.int .i64 (-1))], .agg [.lit (.int .i64 2), .lit (.int .i64 2), .lit (.int .i64 (-1))], .agg [.lit (.int .i64 0), .lit (.int .i64 2), .lit (.int .i64 (-1))], .agg [.lit (.int .i64 (-1)), .lit (.int .i64 2), .lit (.int .i64 0)], .agg [.lit (.int .i64 (-1)), .lit (.int .i64 (-1)), .lit (.int .i64 (-1))], .agg [.lit (.int .i64 (-1)), .lit (.int .i64 0), .lit (.int .i64 (-1))], .agg [.lit (.int .i64 (-1)), .lit (.int .i64 (-1)), .lit (.int .i64 (-1))], .agg [.lit (.int .i64 (-1)), .lit (.int .i64 0), .lit (.int .i64 (-1))], .agg [.lit (.int .i64 (-1)), .lit (.int .i64 (-1)), .lit (.int .i64 (-1))]]

/-- 'portolanlaw08.KindFits': WHATEVER THE INPUT: true; the input reads as it did. -/
def kindFitsSpec : ChangeSpec := { name := "kindFits", fn := fun _ => fun
  | [d1, d2, d3] => { results := [.lit (.bool true)], args := [d1, d2, d3] }
  | _ => none }
def kindFitsRow : OpenClaim := { program := "ytmceiidhhpcjkaadoor", sum := "9b9ee640af6113884d9634d105859214e1a80306855ae3ba55a9805020d26de3", func := "portolan/portolanlaw08.KindFits", spec := "kindFits", inPlace := ["internal/bytealg.IndexByteString"], unfollowed := true, recurses := true, named := ["portolan/code.parts", "portolan/kind.rows"], apart := false, laid := [("portolan/code.parts", laid_portolan_code_parts), ("portolan/kind.rows", laid_portolan_kind_rows)] }
def KindFitsSaid : Prop := kindFitsRow.holds Tryd.pinned (OpenSpec.ofChange kindFitsSpec)

/-- ITS FALSE NEIGHBOUR: 'it returns false'. Refute it at one input. -/
def kindFitsWrong : ChangeSpec := { name := "kindFits", fn := fun _ => fun
  | [d1, d2, d3] => { results := [.lit (.bool false)], args := [d1, d2, d3] }
  | _ => none }
def KindFitsWrongFalsely : Prop := kindFitsRow.holds Tryd.pinned (OpenSpec.ofChange kindFitsWrong)

/-- 'portolanlaw08.KindOrder': WHATEVER THE INPUT: true; the input reads as it did. -/
def kindOrderSpec : ChangeSpec := { name := "kindOrder", fn := fun _ => fun
  | [d] => { results := [.lit (.bool true)], args := [d] }
  | _ => none }
def kindOrderRow : OpenClaim := { program := "ytmceiidhhpcjkaadoor", sum := "9b9ee640af6113884d9634d105859214e1a80306855ae3ba55a9805020d26de3", func := "portolan/portolanlaw08.KindOrder", spec := "kindOrder", inPlace := ["internal/bytealg.IndexByteString"], unfollowed := true, recurses := true, named := ["portolan/code.parts", "portolan/kind.rows"], apart := false, laid := [("portolan/code.parts", laid_portolan_code_parts), ("portolan/kind.rows", laid_portolan_kind_rows)] }
def KindOrderSaid : Prop := kindOrderRow.holds Tryd.pinned (OpenSpec.ofChange kindOrderSpec)

/-- ITS FALSE NEIGHBOUR: 'it returns false'. Refute it at one input. -/
def kindOrderWrong : ChangeSpec := { name := "kindOrder", fn := fun _ => fun
  | [d] => { results := [.lit (.bool false)], args := [d] }
  | _ => none }
def KindOrderWrongFalsely : Prop := kindOrderRow.holds Tryd.pinned (OpenSpec.ofChange kindOrderWrong)

/-- 'portolanlaw08.KindWays': WHATEVER THE INPUT: true; the input reads as it did. -/
def kindWaysSpec : ChangeSpec := { name := "kindWays", fn := fun _ => fun
  | [d1, d2] => { results := [.lit (.bool true)], args := [d1, d2] }
  | _ => none }
def kindWaysRow : OpenClaim := { program := "ytmceiidhhpcjkaadoor", sum := "9b9ee640af6113884d9634d105859214e1a80306855ae3ba55a9805020d26de3", func := "portolan/portolanlaw08.KindWays", spec := "kindWays", inPlace := ["internal/bytealg.IndexByteString"], unfollowed := true, recurses := true, named := ["portolan/code.parts", "portolan/kind.rows"], apart := false, laid := [("portolan/code.parts", laid_portolan_code_parts), ("portolan/kind.rows", laid_portolan_kind_rows)] }
def KindWaysSaid : Prop := kindWaysRow.holds Tryd.pinned (OpenSpec.ofChange kindWaysSpec)

/-- ITS FALSE NEIGHBOUR: 'it returns false'. Refute it at one input. -/
def kindWaysWrong : ChangeSpec := { name := "kindWays", fn := fun _ => fun
  | [d1, d2] => { results := [.lit (.bool false)], args := [d1, d2] }
  | _ => none }
def KindWaysWrongFalsely : Prop := kindWaysRow.holds Tryd.pinned (OpenSpec.ofChange kindWaysWrong)

/- THE SECOND FORM. 'bulk': how many values and letters a reading holds, each counted each time it is reached (what is shared counts as often as it is met; a slice's spare places count too). A statement '..UptoSaid' is the law's where the arguments, and the package variables that the reading takes, are together of bulk at most 1048576: NARROWER than '..Said'. Prove '..Said' where nothing that the law and all that it calls make is longer than what came in: it says more and counts as full. Else prove '..UptoSaid'. A law counts once. -/
mutual
def uptoBulk {H : Type} : DataW H → Nat
  | .lit (.string bytes) => bytes.length + 1
  | .lit _ => 1
  | .nil => 1
  | .ptr d => uptoBulk d + 1
  | .slice elems spare => uptoBulkAll elems + uptoBulkAll spare + 1
  | .agg parts => uptoBulkAll parts + 1
  | .iface _ d => uptoBulk d + 1
  | .map entries => uptoBulkEntries entries + 1
  | .held _ => 1
def uptoBulkAll {H : Type} : List (DataW H) → Nat
  | [] => 0
  | d :: r => uptoBulk d + uptoBulkAll r
def uptoBulkEntries {H : Type} : List (Lit × DataW H) → Nat
  | [] => 0
  | x :: r => uptoBulkEntry x + uptoBulkEntries r
def uptoBulkEntry {H : Type} : Lit × DataW H → Nat
  | (.string bytes, d) => bytes.length + uptoBulk d + 1
  | (_, d) => uptoBulk d + 1
 end
def uptoSmall : (H : Type) → List (DataW H) → Bool := fun _ ds => decide (uptoBulkAll ds ≤ 1048576)
def OpenSpec.upto (s : _root_.Go.ChangeSpec) : _root_.Go.OpenSpec := { _root_.Go.OpenSpec.ofChange s with cond := some uptoSmall }

/-- 'portolanlaw08.KindFits', WHERE WHAT IT READS IS OF BULK AT MOST 1048576: true; the input reads as it did. -/
def kindFitsUptoRow : OpenClaim := { program := "ytmceiidhhpcjkaadoor", sum := "9b9ee640af6113884d9634d105859214e1a80306855ae3ba55a9805020d26de3", func := "portolan/portolanlaw08.KindFits", spec := "kindFits", inPlace := ["internal/bytealg.IndexByteString"], unfollowed := true, recurses := true, named := ["portolan/code.parts", "portolan/kind.rows"], apart := false, laid := [("portolan/code.parts", laid_portolan_code_parts), ("portolan/kind.rows", laid_portolan_kind_rows)], narrowed := true }
def KindFitsUptoSaid : Prop := kindFitsUptoRow.holds Tryd.pinned (OpenSpec.upto kindFitsSpec)

/-- 'portolanlaw08.KindOrder', WHERE WHAT IT READS IS OF BULK AT MOST 1048576: true; the input reads as it did. -/
def kindOrderUptoRow : OpenClaim := { program := "ytmceiidhhpcjkaadoor", sum := "9b9ee640af6113884d9634d105859214e1a80306855ae3ba55a9805020d26de3", func := "portolan/portolanlaw08.KindOrder", spec := "kindOrder", inPlace := ["internal/bytealg.IndexByteString"], unfollowed := true, recurses := true, named := ["portolan/code.parts", "portolan/kind.rows"], apart := false, laid := [("portolan/code.parts", laid_portolan_code_parts), ("portolan/kind.rows", laid_portolan_kind_rows)], narrowed := true }
def KindOrderUptoSaid : Prop := kindOrderUptoRow.holds Tryd.pinned (OpenSpec.upto kindOrderSpec)

/-- 'portolanlaw08.KindWays', WHERE WHAT IT READS IS OF BULK AT MOST 1048576: true; the input reads as it did. -/
def kindWaysUptoRow : OpenClaim := { program := "ytmceiidhhpcjkaadoor", sum := "9b9ee640af6113884d9634d105859214e1a80306855ae3ba55a9805020d26de3", func := "portolan/portolanlaw08.KindWays", spec := "kindWays", inPlace := ["internal/bytealg.IndexByteString"], unfollowed := true, recurses := true, named := ["portolan/code.parts", "portolan/kind.rows"], apart := false, laid := [("portolan/code.parts", laid_portolan_code_parts), ("portolan/kind.rows", laid_portolan_kind_rows)], narrowed := true }
def KindWaysUptoSaid : Prop := kindWaysUptoRow.holds Tryd.pinned (OpenSpec.upto kindWaysSpec)

end Rows
end Go.Proofs.YtmceiidhhpcjkaaDoor
