/-
  DERIVED. GIVEN WITH THE SEED: THE CARDS: each row of YtkjhkbolchkkhaaDoorRows.lean that lists a variable, with what it lists TIED to the program's text (the seventh form; the later family's looks); each row that meets fmt, with fmt's text TOLD by the authors' own Lean function (tested against real Go, not proved from fmt's source: count such statements apart). THE CARD IS WHAT COUNTS. Prove the row's statement (the work); the ties are given (YtkjhkbolchkkhaaDoorTie.lean); close each card by the builder's one call (the guide's Derived/Test/ToyasCard.lean, 'card_holds'). Laid BY PROGRAM, IN A SANDBOX (cutbox-door.mjs). By AI agents, Wed Nov 11 2026. No macro, syntax, notation, axiom, sorry.
-/
import Derived.Test.YtkjhkbolchkkhaaDoorRows
import GoSem.ClaimSeven
namespace Go.Proofs.YtkjhkbolchkkhaaDoor
namespace Rows

/-- THE TIED CARD OF 'portolanlaw19.TextEncodes'. -/
def textEncodesCard : Claim7 := { stood := { row := textEncodesRow, standIns := [], harness := (true, "724b5fa07ea1e2b054f938ba096b56d57d6f999d7a622bfb17b9f85dc84ec2fa"), looks := false }, kinds := [], alts := [], laidByText := true, laidKinds := [.data], laidTests := true, laidLooks := .later }
def TextEncodesCardSaid : Prop := Claim7.holds Tryd.pinned (.plain (OpenSpec.ofChange textEncodesSpec)) textEncodesCard

/-- THE TIED CARD OF 'portolanlaw19.TextDecodes'. -/
def textDecodesCard : Claim7 := { stood := { row := textDecodesRow, standIns := [], harness := (true, "724b5fa07ea1e2b054f938ba096b56d57d6f999d7a622bfb17b9f85dc84ec2fa"), looks := false }, kinds := [], alts := [], laidByText := true, laidKinds := [.data], laidTests := true, laidLooks := .later }
def TextDecodesCardSaid : Prop := Claim7.holds Tryd.pinned (.plain (OpenSpec.ofChange textDecodesSpec)) textDecodesCard

/-- THE TIED CARD OF 'portolanlaw19.TextBack'. -/
def textBackCard : Claim7 := { stood := { row := textBackRow, standIns := [], harness := (true, "724b5fa07ea1e2b054f938ba096b56d57d6f999d7a622bfb17b9f85dc84ec2fa"), looks := false }, kinds := [], alts := [], laidByText := true, laidKinds := [.data], laidTests := true, laidLooks := .later }
def TextBackCardSaid : Prop := Claim7.holds Tryd.pinned (.plain (OpenSpec.ofChange textBackSpec)) textBackCard

/-- THE TIED CARD OF 'portolanlaw19.TextOnce'. -/
def textOnceCard : Claim7 := { stood := { row := textOnceRow, standIns := [], harness := (true, "724b5fa07ea1e2b054f938ba096b56d57d6f999d7a622bfb17b9f85dc84ec2fa"), looks := false }, kinds := [], alts := [], laidByText := true, laidKinds := [.data], laidTests := true, laidLooks := .later }
def TextOnceCardSaid : Prop := Claim7.holds Tryd.pinned (.plain (OpenSpec.ofChange textOnceSpec)) textOnceCard

/-- THE TIED CARD OF 'portolanlaw19.TextIn'. -/
def textInCard : Claim7 := { stood := { row := textInRow, standIns := [], harness := (true, "724b5fa07ea1e2b054f938ba096b56d57d6f999d7a622bfb17b9f85dc84ec2fa"), looks := false }, kinds := [], alts := [], laidByText := true, laidKinds := [.data], laidTests := true, laidLooks := .later }
def TextInCardSaid : Prop := Claim7.holds Tryd.pinned (.plain (OpenSpec.ofChange textInSpec)) textInCard

/-- THE SECOND FORM's CARD OF 'portolanlaw19.TextEncodes'. -/
def textEncodesUptoCard : Claim7 := { stood := { row := textEncodesUptoRow, standIns := [], harness := (true, "724b5fa07ea1e2b054f938ba096b56d57d6f999d7a622bfb17b9f85dc84ec2fa"), looks := false }, kinds := [], alts := [], laidByText := true, laidKinds := [.data], laidTests := true, laidLooks := .later }
def TextEncodesUptoCardSaid : Prop := Claim7.holds Tryd.pinned (.plain (OpenSpec.upto textEncodesSpec)) textEncodesUptoCard

/-- THE SECOND FORM's CARD OF 'portolanlaw19.TextDecodes'. -/
def textDecodesUptoCard : Claim7 := { stood := { row := textDecodesUptoRow, standIns := [], harness := (true, "724b5fa07ea1e2b054f938ba096b56d57d6f999d7a622bfb17b9f85dc84ec2fa"), looks := false }, kinds := [], alts := [], laidByText := true, laidKinds := [.data], laidTests := true, laidLooks := .later }
def TextDecodesUptoCardSaid : Prop := Claim7.holds Tryd.pinned (.plain (OpenSpec.upto textDecodesSpec)) textDecodesUptoCard

/-- THE SECOND FORM's CARD OF 'portolanlaw19.TextBack'. -/
def textBackUptoCard : Claim7 := { stood := { row := textBackUptoRow, standIns := [], harness := (true, "724b5fa07ea1e2b054f938ba096b56d57d6f999d7a622bfb17b9f85dc84ec2fa"), looks := false }, kinds := [], alts := [], laidByText := true, laidKinds := [.data], laidTests := true, laidLooks := .later }
def TextBackUptoCardSaid : Prop := Claim7.holds Tryd.pinned (.plain (OpenSpec.upto textBackSpec)) textBackUptoCard

/-- THE SECOND FORM's CARD OF 'portolanlaw19.TextOnce'. -/
def textOnceUptoCard : Claim7 := { stood := { row := textOnceUptoRow, standIns := [], harness := (true, "724b5fa07ea1e2b054f938ba096b56d57d6f999d7a622bfb17b9f85dc84ec2fa"), looks := false }, kinds := [], alts := [], laidByText := true, laidKinds := [.data], laidTests := true, laidLooks := .later }
def TextOnceUptoCardSaid : Prop := Claim7.holds Tryd.pinned (.plain (OpenSpec.upto textOnceSpec)) textOnceUptoCard

/-- THE SECOND FORM's CARD OF 'portolanlaw19.TextIn'. -/
def textInUptoCard : Claim7 := { stood := { row := textInUptoRow, standIns := [], harness := (true, "724b5fa07ea1e2b054f938ba096b56d57d6f999d7a622bfb17b9f85dc84ec2fa"), looks := false }, kinds := [], alts := [], laidByText := true, laidKinds := [.data], laidTests := true, laidLooks := .later }
def TextInUptoCardSaid : Prop := Claim7.holds Tryd.pinned (.plain (OpenSpec.upto textInSpec)) textInUptoCard
end Rows
end Go.Proofs.YtkjhkbolchkkhaaDoor
