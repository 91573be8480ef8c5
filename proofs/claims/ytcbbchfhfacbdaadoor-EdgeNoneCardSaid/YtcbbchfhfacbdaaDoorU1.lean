/- What the functions come to, in plain Lean, part 1 -/
import Derived.Test.YtcbbchfhfacbdaaDoorS2
set_option linter.all false
section
namespace Go.Pf
open Go.Pp
structure Ins where
  Op : Int
  D : Int
  A : Int
  B : Int
  N : Int
  M : Int
  Args : List Int
  deriving DecidableEq, Inhabited
structure Block where
  Code : List Ins
  deriving DecidableEq, Inhabited
structure Func where
  Kinds : List Int
  Base : List Int
  Params : Int
  Result : Int
  Blocks : List Block
  deriving DecidableEq, Inhabited
structure Prog where
  Funcs : List Func
  deriving DecidableEq, Inhabited
structure code_writer where
  b : List Int
  bad : Bool
  deriving DecidableEq, Inhabited
structure code_reader where
  b : List Int
  err : Int
  deriving DecidableEq, Inhabited
structure Edge where
  From : Int
  To : Int
  deriving DecidableEq, Inhabited
end Go.Pf
end
section
namespace Go.Pf
open Go.Pp
def shape_within (a0 : Int) (a1 : Int) (a2 : Int) : Option (Bool) :=
  if decide (a1 ≤ a0) then
    some (decide (a0 ≤ a2))
  else
    some false
end Go.Pf
end
section
namespace Go.Pf
open Go.Pp
def shape_kinds.k1  : Option (Bool) :=
  some true
def shape_kinds.j2 (a0 : Func) (x4 : Int) (x5 : Int) (x7 : Bool) : Option (LR (Unit) (Bool)) :=
  if x7 then
    if (x5 != (-1)) then
      some (.ret false)
    else
      some (.next ())
  else
    if (x4 != 2) then
      some (.ret false)
    else
      (shape_within x5 0 (w64 ((List.length a0.Kinds : Int) - 1))).bind fun x8 =>
      if x8 then
        (ixL a0.Kinds x5).bind fun x9 =>
        if (x9 != 1) then
          some (.ret false)
        else
          some (.next ())
      else
        some (.ret false)
def shape_kinds.b1 (a0 : Func) : Nat → Unit → Option (LR (Unit) (Bool))
  | i1, _ =>
    (ixL a0.Kinds (i1 : Int)).bind fun x4 =>
    (ixL a0.Base (i1 : Int)).bind fun x5 =>
    if (x4 == 0) then
      shape_kinds.j2 a0 x4 x5 true
    else
      shape_kinds.j2 a0 x4 x5 (x4 == 1)
def shape_kinds.j1 (a0 : Func) (x2 : Bool) : Option (Bool) :=
  if x2 then
    some false
  else
    aft (forN (List.length a0.Kinds : Int) (shape_kinds.b1 a0) ()) (fun s => shape_kinds.k1) (fun r => some r)
def shape_kinds (a0 : Func) : Option (Bool) :=
  if decide (48 < (List.length a0.Kinds : Int)) then
    shape_kinds.j1 a0 true
  else
    shape_kinds.j1 a0 ((List.length a0.Base : Int) != (List.length a0.Kinds : Int))
end Go.Pf
end
section
namespace Go.Pf
open Go.Pp
def slices_Index_int.k1  : Option (Int) :=
  some (-1)
def slices_Index_int.b1 (a0 : List Int) (a1 : Int) : Nat → Unit → Option (LR (Unit) (Int))
  | i1, _ =>
    (ixL a0 (i1 : Int)).bind fun x2 =>
    if (a1 == x2) then
      some (.ret (i1 : Int))
    else
      some (.next ())
def slices_Index_int (a0 : List Int) (a1 : Int) : Option (Int) :=
  aft (forN (List.length a0 : Int) (slices_Index_int.b1 a0 a1) ()) (fun s => slices_Index_int.k1) (fun r => some r)
end Go.Pf
end
section
namespace Go.Pf
open Go.Pp
def slices_Contains_int (a0 : List Int) (a1 : Int) : Option (Bool) :=
  (slices_Index_int a0 a1).bind fun x1 =>
  some (decide (0 ≤ x1))
end Go.Pf
end
section
namespace Go.Pf
open Go.Pp
def slices_IndexFunc_Block.k1  : Option (Int) :=
  some (-1)
def slices_IndexFunc_Block.b1 (a0 : List Block) (a1 : Block → Option (Bool)) : Nat → Unit → Option (LR (Unit) (Int))
  | i1, _ =>
    (ixL a0 (i1 : Int)).bind fun x2 =>
    (a1 x2).bind fun x3 =>
    if x3 then
      some (.ret (i1 : Int))
    else
      some (.next ())
def slices_IndexFunc_Block (a0 : List Block) (a1 : Block → Option (Bool)) : Option (Int) :=
  aft (forN (List.length a0 : Int) (slices_IndexFunc_Block.b1 a0 a1) ()) (fun s => slices_IndexFunc_Block.k1) (fun r => some r)
end Go.Pf
end
section
namespace Go.Pf
open Go.Pp
def slices_ContainsFunc_Block (a0 : List Block) (a1 : Block → Option (Bool)) : Option (Bool) :=
  (slices_IndexFunc_Block a0 a1).bind fun x1 =>
  some (decide (0 ≤ x1))
end Go.Pf
end
section
namespace Go.Pf
open Go.Pp
def slices_IndexFunc_Ins.k1  : Option (Int) :=
  some (-1)
def slices_IndexFunc_Ins.b1 (a0 : List Ins) (a1 : Ins → Option (Bool)) : Nat → Unit → Option (LR (Unit) (Int))
  | i1, _ =>
    (ixL a0 (i1 : Int)).bind fun x2 =>
    (a1 x2).bind fun x3 =>
    if x3 then
      some (.ret (i1 : Int))
    else
      some (.next ())
def slices_IndexFunc_Ins (a0 : List Ins) (a1 : Ins → Option (Bool)) : Option (Int) :=
  aft (forN (List.length a0 : Int) (slices_IndexFunc_Ins.b1 a0 a1) ()) (fun s => slices_IndexFunc_Ins.k1) (fun r => some r)
end Go.Pf
end
section
namespace Go.Pf
open Go.Pp
def shape_Last (a0 : Int) : Option (Bool) :=
  (shape_within a0 21 23).bind fun x1 =>
  some x1
end Go.Pf
end
section
namespace Go.Pf
open Go.Pp
def shape_block_1 (a0 : Ins) : Option (Bool) :=
  (shape_Last a0.Op).bind fun x1 =>
  some x1
end Go.Pf
end
section
namespace Go.Pf
open Go.Pp
def shape_block (a0 : Block) : Option (Bool) :=
  (shape_within (List.length a0.Code : Int) 1 40).bind fun x1 =>
  if x1 then
    (slices_IndexFunc_Ins a0.Code shape_block_1).bind fun x2 =>
    some (x2 == w64 ((List.length a0.Code : Int) - 1))
  else
    some false
end Go.Pf
end
section
namespace Go.Pf
open Go.Pp
def shape_Func_1 (a0 : Block) : Option (Bool) :=
  (shape_block a0).bind fun x1 =>
  some (!x1)
end Go.Pf
end
section
namespace Go.Pf
open Go.Pp
def shape_Func.j2 (a0 : Func) (x4 : Bool) : Option (Bool) :=
  if x4 then
    some false
  else
    (shape_within (List.length a0.Blocks : Int) 1 40).bind fun x5 =>
    if x5 then
      (slices_ContainsFunc_Block a0.Blocks shape_Func_1).bind fun x6 =>
      some (!x6)
    else
      some false
def shape_Func.j1 (a0 : Func) (x2 : Bool) : Option (Bool) :=
  if x2 then
    some false
  else
    (headL a0.Kinds a0.Params).bind fun x7 =>
    (slices_Contains_int x7 2).bind fun x8 =>
    if x8 then
      shape_Func.j2 a0 true
    else
      (shape_within a0.Result 0 1).bind fun x9 =>
      shape_Func.j2 a0 (!x9)
def shape_Func (a0 : Func) : Option (Bool) :=
  (shape_kinds a0).bind fun x10 =>
  if x10 then
    (shape_within a0.Params 0 (if (List.length a0.Kinds : Int) < 4 then (List.length a0.Kinds : Int) else 4)).bind fun x11 =>
    shape_Func.j1 a0 (!x11)
  else
    shape_Func.j1 a0 true
end Go.Pf
end
section
namespace Go.Pf
open Go.Pp
def slices_ContainsFunc_Ins (a0 : List Ins) (a1 : Ins → Option (Bool)) : Option (Bool) :=
  (slices_IndexFunc_Ins a0 a1).bind fun x1 =>
  some (decide (0 ≤ x1))
end Go.Pf
end
section
namespace Go.Pf
open Go.Pp
def code_Parts (a0 : Int) : Option (ByteArray) :=
  if decide (a0 < 0) then
    some ({ data := #[] } : ByteArray)
  else
    if decide (24 ≤ a0) then
      some ({ data := #[] } : ByteArray)
    else
      (ixL partsL a0).bind fun x1 =>
      some x1
end Go.Pf
end
section
namespace Go.Pf
open Go.Pp
def stringslite_IndexByte (a0 : ByteArray) (a1 : Int) : Option (Int) := some (ixB a0 a1)
end Go.Pf
end
section
namespace Go.Pf
open Go.Pp
def strings_IndexByte (a0 : ByteArray) (a1 : Int) : Option (Int) :=
  (stringslite_IndexByte a0 a1).bind fun x1 =>
  some x1
end Go.Pf
end
section
namespace Go.Pf
open Go.Pp
def code_letters (a0 : Int) (a1 : Int) : Option (Bool) :=
  (code_Parts a0).bind fun x1 =>
  (strings_IndexByte x1 a1).bind fun x2 =>
  some (decide (0 ≤ x2))
end Go.Pf
end
section
namespace Go.Pf
open Go.Pp
def code_Sets (a0 : Int) : Option (Bool) :=
  (code_letters a0 68).bind fun x1 =>
  some x1
end Go.Pf
end
section
namespace Go.Pf
open Go.Pp
def shape_Sets (a0 : Ins) : Option (Int × Bool) :=
  (code_Sets a0.Op).bind fun x1 =>
  if x1 then
    some (a0.D, true)
  else
    some (0, false)
end Go.Pf
end
section
namespace Go.Pf
open Go.Pp
def shape_has (a0 : Int) (a1 : Int) : Option (Bool) :=
  (code_Parts a0).bind fun x1 =>
  (strings_IndexByte x1 a1).bind fun x2 =>
  some (decide (0 ≤ x2))
end Go.Pf
end
section
namespace Go.Pf
open Go.Pp
def shape_Uses.j2 (a0 : Ins) (x2 : List Int) : Option (List Int) :=
  (shape_has a0.Op 76).bind fun x3 =>
  if x3 then
    (appL 8 x2 a0.Args).bind fun x4 =>
    some x4
  else
    some x2
def shape_Uses.j1 (a0 : Ins) (x1 : List Int) : Option (List Int) :=
  (shape_has a0.Op 66).bind fun x5 =>
  if x5 then
    (appL 8 x1 [a0.B]).bind fun x6 =>
    shape_Uses.j2 a0 x6
  else
    shape_Uses.j2 a0 x1
def shape_Uses (a0 : Ins) : Option (List Int) :=
  (shape_has a0.Op 65).bind fun x7 =>
  if x7 then
    shape_Uses.j1 a0 [a0.A]
  else
    shape_Uses.j1 a0 []
end Go.Pf
end
section
namespace Go.Pf
open Go.Pp
def slices_Sort_int (a0 : List Int) : Option (List Int) := if a0.length < 4611686018427387904 then some (a0.mergeSort (fun x y => decide (x ≤ y))) else none
end Go.Pf
end
section
namespace Go.Pf
open Go.Pp
def slices_Compact_int (a0 : List Int) : Option (List Int) := if a0.length ≤ 9223372036854775807 then some (Go.Lib.compact a0) else none
end Go.Pf
end
section
namespace Go.Pf
open Go.Pp
def shape_Next.j1 (x1 : List Int) : Option (List Int) :=
  (slices_Sort_int x1).bind fun x2 =>
  (slices_Compact_int x2).bind fun x3 =>
  some x3
def shape_Next (a0 : Ins) : Option (List Int) :=
  if (a0.Op == 22) then
    shape_Next.j1 [a0.N, a0.M]
  else
    if (a0.Op == 21) then
      shape_Next.j1 [a0.N]
    else
      shape_Next.j1 []
end Go.Pf
end
section
namespace Go.Pf
open Go.Pp
def shape_hasAny.k1  : Option (Bool) :=
  some false
def shape_hasAny.k2 (a0 : ByteArray) (x1 : Nat) : Option (LR (Nat) (Bool)) :=
  some (.next (nxP a0 x1))
def shape_hasAny.b2 (a0 : ByteArray) (a1 : ByteArray) (x1 : Nat) : Nat → Option (LR (Nat) (Bool))
  | x2 =>
    if decide (x2 < a1.size) then
      if ((decI a0 x1) == (decI a1 x2)) then
        some (.ret true)
      else
        some (.next (nxP a1 x2))
    else
      some (.brk x2)
def shape_hasAny.b1 (a0 : ByteArray) (a1 : ByteArray) : Nat → Option (LR (Nat) (Bool))
  | x1 =>
    if decide (x1 < a0.size) then
      aft (whileF (shape_hasAny.b2 a0 a1 x1) 18446744073709551616 0) (fun s => shape_hasAny.k2 a0 x1) (fun r => some (.ret r))
    else
      some (.brk x1)
def shape_hasAny (a0 : ByteArray) (a1 : ByteArray) : Option (Bool) :=
  aft (whileF (shape_hasAny.b1 a0 a1) 18446744073709551616 0) (fun s => shape_hasAny.k1) (fun r => some r)
end Go.Pf
end
section
namespace Go.Pf
open Go.Pp
def shape_bare_1 (a0 : Int) (a1 : ByteArray) (a2 : Ins) : Option (Bool) :=
  if (a0 != 0) then
    (code_Parts a2.Op).bind fun x1 =>
    (shape_hasAny x1 a1).bind fun x2 =>
    some (!x2)
  else
    some false
end Go.Pf
end
section
namespace Go.Pf
open Go.Pp
def shape_bare (a0 : Ins) : Option (Bool) :=
  (shape_bare_1 a0.D ({ data := #[68] } : ByteArray) a0).bind fun x1 =>
  if x1 then
    some false
  else
    (shape_bare_1 a0.A ({ data := #[65] } : ByteArray) a0).bind fun x2 =>
    if x2 then
      some false
    else
      (shape_bare_1 a0.B ({ data := #[66] } : ByteArray) a0).bind fun x3 =>
      if x3 then
        some false
      else
        (shape_bare_1 a0.N ({ data := #[78, 110] } : ByteArray) a0).bind fun x4 =>
        if x4 then
          some false
        else
          (shape_bare_1 a0.M ({ data := #[77] } : ByteArray) a0).bind fun x5 =>
          if x5 then
            some false
          else
            (shape_bare_1 (List.length a0.Args : Int) ({ data := #[76] } : ByteArray) a0).bind fun x6 =>
            some (!x6)
end Go.Pf
end
section
namespace Go.Pf
open Go.Pp
def shape_numbers.j1 (a1 : Ins) (x5 : Bool) : Option (Bool) :=
  if x5 then
    (shape_within a1.N 0 7).bind fun x6 =>
    some x6
  else
    some true
def shape_numbers (a0 : Prog) (a1 : Ins) : Option (Bool) :=
  if (a1.Op == 19) then
    (shape_within a1.N 0 (w64 ((List.length a0.Funcs : Int) - 1))).bind fun x11 =>
    if x11 then
      (ixL a0.Funcs a1.N).bind fun x12 =>
      some ((List.length a1.Args : Int) == x12.Params)
    else
      some false
  else
    if (a1.Op == 1) then
      (shape_within a1.N (-2147483648) 2147483648).bind fun x10 =>
      some x10
    else
      if (a1.Op == 16) then
        (shape_within a1.N (-8) 8).bind fun x9 =>
        some x9
      else
        if (a1.Op == 10) then
          (shape_within a1.N 0 8).bind fun x7 =>
          if x7 then
            (shape_within a1.M 0 8).bind fun x8 =>
            some x8
          else
            some false
        else
          if (a1.Op == 11) then
            shape_numbers.j1 a1 true
          else
            if (a1.Op == 12) then
              shape_numbers.j1 a1 true
            else
              if (a1.Op == 13) then
                shape_numbers.j1 a1 true
              else
                if (a1.Op == 14) then
                  shape_numbers.j1 a1 true
                else
                  shape_numbers.j1 a1 (a1.Op == 15)
end Go.Pf
end
section
namespace Go.Pf
open Go.Pp
def shape_Ins_1 (a0 : Int) (a1 : Func) : Option (Bool) :=
  (shape_within a0 0 (w64 ((List.length a1.Kinds : Int) - 1))).bind fun x1 =>
  some (!x1)
end Go.Pf
end
section
namespace Go.Pf
open Go.Pp
def shape_Ins_2 (a0 : Int) (a1 : Func) : Option (Bool) :=
  (shape_within a0 1 (w64 ((List.length a1.Blocks : Int) - 1))).bind fun x1 =>
  some (!x1)
end Go.Pf
end
section
namespace Go.Pf
open Go.Pp
def slices_IndexFunc_int.k1  : Option (Int) :=
  some (-1)
def slices_IndexFunc_int.b1 (a0 : List Int) (a1 : Int → Option (Bool)) : Nat → Unit → Option (LR (Unit) (Int))
  | i1, _ =>
    (ixL a0 (i1 : Int)).bind fun x2 =>
    (a1 x2).bind fun x3 =>
    if x3 then
      some (.ret (i1 : Int))
    else
      some (.next ())
def slices_IndexFunc_int (a0 : List Int) (a1 : Int → Option (Bool)) : Option (Int) :=
  aft (forN (List.length a0 : Int) (slices_IndexFunc_int.b1 a0 a1) ()) (fun s => slices_IndexFunc_int.k1) (fun r => some r)
end Go.Pf
end
section
namespace Go.Pf
open Go.Pp
def slices_ContainsFunc_int (a0 : List Int) (a1 : Int → Option (Bool)) : Option (Bool) :=
  (slices_IndexFunc_int a0 a1).bind fun x1 =>
  some (decide (0 ≤ x1))
end Go.Pf
end
section
namespace Go.Pf
open Go.Pp
def shape_Ins.j2 (a2 : Ins) (x3 : Func) (x5 : List Int) : Option (Bool) :=
  (slices_ContainsFunc_int x5 (fun y0 => shape_Ins_1 y0 x3)).bind fun x6 =>
  if x6 then
    some false
  else
    (shape_Next a2).bind fun x7 =>
    (slices_ContainsFunc_int x7 (fun y0 => shape_Ins_2 y0 x3)).bind fun x8 =>
    some (!x8)
def shape_Ins.j1 (a0 : Prog) (a1 : Int) (a2 : Ins) (x2 : Bool) : Option (Bool) :=
  if x2 then
    some false
  else
    (ixL a0.Funcs a1).bind fun x3 =>
    (shape_Uses a2).bind fun x4 =>
    (shape_Sets a2).bind fun x9 =>
    if x9.2 then
      (appL 8 x4 [x9.1]).bind fun x10 =>
      shape_Ins.j2 a2 x3 x10
    else
      shape_Ins.j2 a2 x3 x4
def shape_Ins (a0 : Prog) (a1 : Int) (a2 : Ins) : Option (Bool) :=
  (shape_within a1 0 (w64 ((List.length a0.Funcs : Int) - 1))).bind fun x11 =>
  if x11 then
    (code_Parts a2.Op).bind fun x12 =>
    if (ByteArray.toList x12 == ByteArray.toList ({ data := #[] } : ByteArray)) then
      shape_Ins.j1 a0 a1 a2 true
    else
      (shape_bare a2).bind fun x13 =>
      if x13 then
        (shape_numbers a0 a2).bind fun x14 =>
        shape_Ins.j1 a0 a1 a2 (!x14)
      else
        shape_Ins.j1 a0 a1 a2 true
  else
    shape_Ins.j1 a0 a1 a2 true
end Go.Pf
end
section
namespace Go.Pf
open Go.Pp
def shape_Check_1 (a0 : Ins) (a1 : Prog) (a2 : Int) : Option (Bool) :=
  (shape_Ins a1 a2 a0).bind fun x1 =>
  some (!x1)
end Go.Pf
end
section
namespace Go.Pf
open Go.Pp
def shape_Check.k1  : Option (Int) :=
  some 0
def shape_Check.k2  : Option (LR (Unit) (Int)) :=
  some (.next ())
def shape_Check.b2 (a0 : Prog) (x4 : Func) (i1 : Nat) : Nat → Unit → Option (LR (Unit) (Int))
  | i2, _ =>
    (ixL x4.Blocks (i2 : Int)).bind fun x7 =>
    (slices_ContainsFunc_Ins x7.Code (fun y0 => shape_Check_1 y0 a0 (i1 : Int))).bind fun x8 =>
    if x8 then
      some (.ret 5)
    else
      some (.next ())
def shape_Check.b1 (a0 : Prog) : Nat → Unit → Option (LR (Unit) (Int))
  | i1, _ =>
    (ixL a0.Funcs (i1 : Int)).bind fun x4 =>
    (shape_Func x4).bind fun x5 =>
    if x5 then
      aft (forN (List.length x4.Blocks : Int) (shape_Check.b2 a0 x4 i1) ()) (fun s => shape_Check.k2) (fun r => some (.ret r))
    else
      some (.ret 5)
def shape_Check.j1 (a0 : Prog) (x2 : Bool) : Option (Int) :=
  if x2 then
    some 5
  else
    aft (forN (List.length a0.Funcs : Int) (shape_Check.b1 a0) ()) (fun s => shape_Check.k1) (fun r => some r)
def shape_Check (a0 : Prog) : Option (Int) :=
  (shape_within (List.length a0.Funcs : Int) 1 8).bind fun x9 =>
  if x9 then
    (ixL a0.Funcs 0).bind fun x10 =>
    if (x10.Params != 0) then
      shape_Check.j1 a0 true
    else
      shape_Check.j1 a0 (x10.Result != 0)
  else
    shape_Check.j1 a0 true
end Go.Pf
end
section
namespace Go.Pf
open Go.Pp
def portolanlaw04_alive : Option (Bool) := some true
end Go.Pf
end
section
namespace Go.Pf
open Go.Pp
def portolanref03_Great.k1 (x1 : Int) : Option (Bool) :=
  some (decide (3000 < x1))
def portolanref03_Great.k2 (x4 : Int) : Option (LR (Int) (Bool)) :=
  some (.next x4)
def portolanref03_Great.k3 (x7 : Int) : Option (LR (Int) (Bool)) :=
  some (.next x7)
def portolanref03_Great.j1 (x3 : Func) (x7 : Int) (x8 : Int) (x10 : Bool) (i2 : Nat) : Option (LR (Int × Int) (Bool)) :=
  if x10 then
    (ixL x3.Blocks (i2 : Int)).bind fun x11 =>
    (ixL x11.Code x8).bind fun x12 =>
    some (.next (w64 (x7 + (List.length x12.Args : Int)), w64 (x8 + 1)))
  else
    some (.brk (x7, x8))
def portolanref03_Great.b3 (x3 : Func) (i2 : Nat) : (Int × Int) → Option (LR (Int × Int) (Bool))
  | (x7, x8) =>
    (ixL x3.Blocks (i2 : Int)).bind fun x13 =>
    if decide (x8 < (List.length x13.Code : Int)) then
      portolanref03_Great.j1 x3 x7 x8 (decide (x7 ≤ 3000)) i2
    else
      portolanref03_Great.j1 x3 x7 x8 false i2
def portolanref03_Great.b2 (x3 : Func) : Nat → Int → Option (LR (Int) (Bool))
  | i2, x4 =>
    if decide (x4 ≤ 3000) then
      (ixL x3.Blocks (i2 : Int)).bind fun x6 =>
      aft (whileF (portolanref03_Great.b3 x3 i2) 18446744073709551616 (w64 (x4 + (List.length x6.Code : Int)), 0)) (fun s => portolanref03_Great.k3 s.1) (fun r => some (.ret r))
    else
      some (.brk x4)
def portolanref03_Great.b1 (a0 : Prog) : Nat → Int → Option (LR (Int) (Bool))
  | i1, x1 =>
    if decide (x1 ≤ 3000) then
      (ixL a0.Funcs (i1 : Int)).bind fun x3 =>
      aft (forN (List.length x3.Blocks : Int) (portolanref03_Great.b2 x3) (w64 ((w64 ((w64 (x1 + (List.length x3.Kinds : Int))) + (List.length x3.Base : Int))) + (List.length x3.Blocks : Int)))) (fun s => portolanref03_Great.k2 s) (fun r => some (.ret r))
    else
      some (.brk x1)
def portolanref03_Great (a0 : Prog) : Option (Bool) :=
  aft (forN (List.length a0.Funcs : Int) (portolanref03_Great.b1 a0) (List.length a0.Funcs : Int)) (fun s => portolanref03_Great.k1 s) (fun r => some r)
end Go.Pf
end
section
namespace Go.Pf
open Go.Pp
def portolanref04_Last (a0 : Int) : Option (Bool) :=
  if (a0 == 21) then
    some true
  else
    if (a0 == 22) then
      some true
    else
      some (a0 == 23)
end Go.Pf
end
section
namespace Go.Pf
open Go.Pp
def portolanref04_within (a0 : Int) (a1 : Int) (a2 : Int) : Option (Bool) :=
  if decide (a1 ≤ a0) then
    some (decide (a0 ≤ a2))
  else
    some false
end Go.Pf
end
section
namespace Go.Pf
open Go.Pp
def portolanref04_Func.k2  : Option (Bool) :=
  some true
def portolanref04_Func.k3  : Option (LR (Unit) (Bool)) :=
  some (.next ())
def portolanref04_Func.b3 (x5 : Block) : Nat → Unit → Option (LR (Unit) (Bool))
  | i3, _ =>
    (ixL x5.Code (i3 : Int)).bind fun x8 =>
    (portolanref04_Last x8.Op).bind fun x9 =>
    if x9 == ((i3 : Int) == w64 ((List.length x5.Code : Int) - 1)) then
      some (.next ())
    else
      some (.ret false)
def portolanref04_Func.b2 (a0 : Func) : Nat → Unit → Option (LR (Unit) (Bool))
  | i2, _ =>
    (ixL a0.Blocks (i2 : Int)).bind fun x5 =>
    (portolanref04_within (List.length x5.Code : Int) 1 40).bind fun x6 =>
    if x6 then
      aft (forN (List.length x5.Code : Int) (portolanref04_Func.b3 x5) ()) (fun s => portolanref04_Func.k3) (fun r => some (.ret r))
    else
      some (.ret false)
def portolanref04_Func.k1 (a0 : Func) : Option (Bool) :=
  aft (forN (List.length a0.Blocks : Int) (portolanref04_Func.b2 a0) ()) (fun s => portolanref04_Func.k2) (fun r => some r)
def portolanref04_Func.j2 (a0 : Func) (i1 : Nat) : Option (LR (Unit) (Bool)) :=
  (ixL a0.Kinds (i1 : Int)).bind fun x10 =>
  if (x10 != 2) then
    (ixL a0.Base (i1 : Int)).bind fun x14 =>
    if (x14 != (-1)) then
      some (.ret false)
    else
      some (.next ())
  else
    (ixL a0.Base (i1 : Int)).bind fun x11 =>
    (portolanref04_within x11 0 (w64 ((List.length a0.Kinds : Int) - 1))).bind fun x12 =>
    if x12 then
      (ixL a0.Kinds x11).bind fun x13 =>
      if (x13 != 1) then
        some (.ret false)
      else
        some (.next ())
    else
      some (.ret false)
def portolanref04_Func.b1 (a0 : Func) : Nat → Unit → Option (LR (Unit) (Bool))
  | i1, _ =>
    (ixL a0.Kinds (i1 : Int)).bind fun x15 =>
    (portolanref04_within x15 0 2).bind fun x16 =>
    if x16 then
      if decide ((i1 : Int) < a0.Params) then
        if (x15 == 2) then
          some (.ret false)
        else
          portolanref04_Func.j2 a0 i1
      else
        portolanref04_Func.j2 a0 i1
    else
      some (.ret false)
def portolanref04_Func.j1 (a0 : Func) (x2 : Bool) : Option (Bool) :=
  if x2 then
    some false
  else
    aft (forN (List.length a0.Kinds : Int) (portolanref04_Func.b1 a0) ()) (fun s => portolanref04_Func.k1 a0) (fun r => some r)
def portolanref04_Func (a0 : Func) : Option (Bool) :=
  if decide (48 < (List.length a0.Kinds : Int)) then
    portolanref04_Func.j1 a0 true
  else
    if ((List.length a0.Base : Int) != (List.length a0.Kinds : Int)) then
      portolanref04_Func.j1 a0 true
    else
      (portolanref04_within a0.Params 0 (if (List.length a0.Kinds : Int) < 4 then (List.length a0.Kinds : Int) else 4)).bind fun x17 =>
      if x17 then
        (portolanref04_within a0.Result 0 1).bind fun x18 =>
        if x18 then
          (portolanref04_within (List.length a0.Blocks : Int) 1 40).bind fun x19 =>
          portolanref04_Func.j1 a0 (!x19)
        else
          portolanref04_Func.j1 a0 true
      else
        portolanref04_Func.j1 a0 true
end Go.Pf
end
section
namespace Go.Pf
open Go.Pp
def portolanref03_Parts.j5 (a0 : Int) (x15 : Bool) : Option (ByteArray) :=
  if x15 then
    some ({ data := #[65] } : ByteArray)
  else
    if (a0 == 21) then
      some ({ data := #[78] } : ByteArray)
    else
      if (a0 == 22) then
        some ({ data := #[65, 78, 77] } : ByteArray)
      else
        some ({ data := #[] } : ByteArray)
def portolanref03_Parts.j4 (a0 : Int) (x13 : Bool) : Option (ByteArray) :=
  if x13 then
    some ({ data := #[65, 78, 66] } : ByteArray)
  else
    if (a0 == 16) then
      some ({ data := #[68, 65, 110] } : ByteArray)
    else
      if (a0 == 18) then
        some ({ data := #[65, 66] } : ByteArray)
      else
        if (a0 == 19) then
          some ({ data := #[68, 78, 76] } : ByteArray)
        else
          if (a0 == 20) then
            portolanref03_Parts.j5 a0 true
          else
            portolanref03_Parts.j5 a0 (a0 == 23)
def portolanref03_Parts.j3 (a0 : Int) (x11 : Bool) : Option (ByteArray) :=
  if x11 then
    some ({ data := #[68, 65, 78] } : ByteArray)
  else
    if (a0 == 12) then
      portolanref03_Parts.j4 a0 true
    else
      portolanref03_Parts.j4 a0 (a0 == 14)
def portolanref03_Parts.j2 (a0 : Int) (x8 : Bool) : Option (ByteArray) :=
  if x8 then
    some ({ data := #[68, 65, 66] } : ByteArray)
  else
    if (a0 == 7) then
      some ({ data := #[68] } : ByteArray)
    else
      if (a0 == 10) then
        some ({ data := #[68, 78, 77] } : ByteArray)
      else
        if (a0 == 11) then
          portolanref03_Parts.j3 a0 true
        else
          if (a0 == 13) then
            portolanref03_Parts.j3 a0 true
          else
            portolanref03_Parts.j3 a0 (a0 == 15)
def portolanref03_Parts.j1 (a0 : Int) (x3 : Bool) : Option (ByteArray) :=
  if x3 then
    some ({ data := #[68, 65] } : ByteArray)
  else
    if (a0 == 3) then
      portolanref03_Parts.j2 a0 true
    else
      if (a0 == 4) then
        portolanref03_Parts.j2 a0 true
      else
        if (a0 == 5) then
          portolanref03_Parts.j2 a0 true
        else
          if (a0 == 6) then
            portolanref03_Parts.j2 a0 true
          else
            portolanref03_Parts.j2 a0 (a0 == 9)
def portolanref03_Parts (a0 : Int) : Option (ByteArray) :=
  if (a0 == 1) then
    some ({ data := #[68, 110] } : ByteArray)
  else
    if (a0 == 2) then
      portolanref03_Parts.j1 a0 true
    else
      if (a0 == 8) then
        portolanref03_Parts.j1 a0 true
      else
        portolanref03_Parts.j1 a0 (a0 == 17)
end Go.Pf
end
section
namespace Go.Pf
open Go.Pp
def portolanref04_has.k1  : Option (Bool) :=
  some false
def portolanref04_has.b1 (a1 : Int) (x1 : ByteArray) : Nat → Unit → Option (LR (Unit) (Bool))
  | i1, _ =>
    (ixS x1 (i1 : Int)).bind fun x3 =>
    if (x3 == a1) then
      some (.ret true)
    else
      some (.next ())
def portolanref04_has (a0 : Int) (a1 : Int) : Option (Bool) :=
  (portolanref03_Parts a0).bind fun x1 =>
  aft (forN (ByteArray.size x1 : Int) (portolanref04_has.b1 a1 x1) ()) (fun s => portolanref04_has.k1) (fun r => some r)
end Go.Pf
end
section
namespace Go.Pf
open Go.Pp
def portolanref04_Sets (a0 : Ins) : Option (Int × Bool) :=
  (portolanref04_has a0.Op 68).bind fun x1 =>
  if x1 then
    some (a0.D, true)
  else
    some (0, false)
end Go.Pf
end
section
namespace Go.Pf
open Go.Pp
def portolanref04_Uses.j2 (a0 : Ins) (x2 : List Int) : Option (List Int) :=
  (portolanref04_has a0.Op 76).bind fun x3 =>
  if x3 then
    (appL 8 x2 a0.Args).bind fun x4 =>
    some x4
  else
    some x2
def portolanref04_Uses.j1 (a0 : Ins) (x1 : List Int) : Option (List Int) :=
  (portolanref04_has a0.Op 66).bind fun x5 =>
  if x5 then
    (appL 8 x1 [a0.B]).bind fun x6 =>
    portolanref04_Uses.j2 a0 x6
  else
    portolanref04_Uses.j2 a0 x1
def portolanref04_Uses (a0 : Ins) : Option (List Int) :=
  (portolanref04_has a0.Op 65).bind fun x7 =>
  if x7 then
    portolanref04_Uses.j1 a0 [a0.A]
  else
    portolanref04_Uses.j1 a0 []
end Go.Pf
end
section
namespace Go.Pf
open Go.Pp
def portolanref04_Next (a0 : Ins) : Option (List Int) :=
  if (a0.Op == 21) then
    some [a0.N]
  else
    if (a0.Op == 22) then
      if (a0.N == a0.M) then
        some [a0.N]
      else
        some [(if a0.M < a0.N then a0.M else a0.N), (if a0.N < a0.M then a0.M else a0.N)]
    else
      some []
end Go.Pf
end
section
namespace Go.Pf
open Go.Pp
def portolanref04_bare (a0 : Ins) : Option (Bool) :=
  if (a0.D == 0) then
    if (a0.A == 0) then
      if (a0.B == 0) then
        if (a0.N == 0) then
          if (a0.M == 0) then
            if ((List.length a0.Args : Int) == 0) then
              some true
            else
              (portolanref04_has a0.Op 76).bind fun x95 =>
              some x95
          else
            (portolanref04_has a0.Op 77).bind fun x93 =>
            if x93 then
              if ((List.length a0.Args : Int) == 0) then
                some true
              else
                (portolanref04_has a0.Op 76).bind fun x94 =>
                some x94
            else
              some false
        else
          (portolanref04_has a0.Op 78).bind fun x85 =>
          if x85 then
            if (a0.M == 0) then
              if ((List.length a0.Args : Int) == 0) then
                some true
              else
                (portolanref04_has a0.Op 76).bind fun x92 =>
                some x92
            else
              (portolanref04_has a0.Op 77).bind fun x90 =>
              if x90 then
                if ((List.length a0.Args : Int) == 0) then
                  some true
                else
                  (portolanref04_has a0.Op 76).bind fun x91 =>
                  some x91
              else
                some false
          else
            (portolanref04_has a0.Op 110).bind fun x86 =>
            if x86 then
              if (a0.M == 0) then
                if ((List.length a0.Args : Int) == 0) then
                  some true
                else
                  (portolanref04_has a0.Op 76).bind fun x89 =>
                  some x89
              else
                (portolanref04_has a0.Op 77).bind fun x87 =>
                if x87 then
                  if ((List.length a0.Args : Int) == 0) then
                    some true
                  else
                    (portolanref04_has a0.Op 76).bind fun x88 =>
                    some x88
                else
                  some false
            else
              some false
      else
        (portolanref04_has a0.Op 66).bind fun x73 =>
        if x73 then
          if (a0.N == 0) then
            if (a0.M == 0) then
              if ((List.length a0.Args : Int) == 0) then
                some true
              else
                (portolanref04_has a0.Op 76).bind fun x84 =>
                some x84
            else
              (portolanref04_has a0.Op 77).bind fun x82 =>
              if x82 then
                if ((List.length a0.Args : Int) == 0) then
                  some true
                else
                  (portolanref04_has a0.Op 76).bind fun x83 =>
                  some x83
              else
                some false
          else
            (portolanref04_has a0.Op 78).bind fun x74 =>
            if x74 then
              if (a0.M == 0) then
                if ((List.length a0.Args : Int) == 0) then
                  some true
                else
                  (portolanref04_has a0.Op 76).bind fun x81 =>
                  some x81
              else
                (portolanref04_has a0.Op 77).bind fun x79 =>
                if x79 then
                  if ((List.length a0.Args : Int) == 0) then
                    some true
                  else
                    (portolanref04_has a0.Op 76).bind fun x80 =>
                    some x80
                else
                  some false
            else
              (portolanref04_has a0.Op 110).bind fun x75 =>
              if x75 then
                if (a0.M == 0) then
                  if ((List.length a0.Args : Int) == 0) then
                    some true
                  else
                    (portolanref04_has a0.Op 76).bind fun x78 =>
                    some x78
                else
                  (portolanref04_has a0.Op 77).bind fun x76 =>
                  if x76 then
                    if ((List.length a0.Args : Int) == 0) then
                      some true
                    else
                      (portolanref04_has a0.Op 76).bind fun x77 =>
                      some x77
                  else
                    some false
              else
                some false
        else
          some false
    else
      (portolanref04_has a0.Op 65).bind fun x49 =>
      if x49 then
        if (a0.B == 0) then
          if (a0.N == 0) then
            if (a0.M == 0) then
              if ((List.length a0.Args : Int) == 0) then
                some true
              else
                (portolanref04_has a0.Op 76).bind fun x72 =>
                some x72
            else
              (portolanref04_has a0.Op 77).bind fun x70 =>
              if x70 then
                if ((List.length a0.Args : Int) == 0) then
                  some true
                else
                  (portolanref04_has a0.Op 76).bind fun x71 =>
                  some x71
              else
                some false
          else
            (portolanref04_has a0.Op 78).bind fun x62 =>
            if x62 then
              if (a0.M == 0) then
                if ((List.length a0.Args : Int) == 0) then
                  some true
                else
                  (portolanref04_has a0.Op 76).bind fun x69 =>
                  some x69
              else
                (portolanref04_has a0.Op 77).bind fun x67 =>
                if x67 then
                  if ((List.length a0.Args : Int) == 0) then
                    some true
                  else
                    (portolanref04_has a0.Op 76).bind fun x68 =>
                    some x68
                else
                  some false
            else
              (portolanref04_has a0.Op 110).bind fun x63 =>
              if x63 then
                if (a0.M == 0) then
                  if ((List.length a0.Args : Int) == 0) then
                    some true
                  else
                    (portolanref04_has a0.Op 76).bind fun x66 =>
                    some x66
                else
                  (portolanref04_has a0.Op 77).bind fun x64 =>
                  if x64 then
                    if ((List.length a0.Args : Int) == 0) then
                      some true
                    else
                      (portolanref04_has a0.Op 76).bind fun x65 =>
                      some x65
                  else
                    some false
              else
                some false
        else
          (portolanref04_has a0.Op 66).bind fun x50 =>
          if x50 then
            if (a0.N == 0) then
              if (a0.M == 0) then
                if ((List.length a0.Args : Int) == 0) then
                  some true
                else
                  (portolanref04_has a0.Op 76).bind fun x61 =>
                  some x61
              else
                (portolanref04_has a0.Op 77).bind fun x59 =>
                if x59 then
                  if ((List.length a0.Args : Int) == 0) then
                    some true
                  else
                    (portolanref04_has a0.Op 76).bind fun x60 =>
                    some x60
                else
                  some false
            else
              (portolanref04_has a0.Op 78).bind fun x51 =>
              if x51 then
                if (a0.M == 0) then
                  if ((List.length a0.Args : Int) == 0) then
                    some true
                  else
                    (portolanref04_has a0.Op 76).bind fun x58 =>
                    some x58
                else
                  (portolanref04_has a0.Op 77).bind fun x56 =>
                  if x56 then
                    if ((List.length a0.Args : Int) == 0) then
                      some true
                    else
                      (portolanref04_has a0.Op 76).bind fun x57 =>
                      some x57
                  else
                    some false
              else
                (portolanref04_has a0.Op 110).bind fun x52 =>
                if x52 then
                  if (a0.M == 0) then
                    if ((List.length a0.Args : Int) == 0) then
                      some true
                    else
                      (portolanref04_has a0.Op 76).bind fun x55 =>
                      some x55
                  else
                    (portolanref04_has a0.Op 77).bind fun x53 =>
                    if x53 then
                      if ((List.length a0.Args : Int) == 0) then
                        some true
                      else
                        (portolanref04_has a0.Op 76).bind fun x54 =>
                        some x54
                    else
                      some false
                else
                  some false
          else
            some false
      else
        some false
  else
    (portolanref04_has a0.Op 68).bind fun x1 =>
    if x1 then
      if (a0.A == 0) then
        if (a0.B == 0) then
          if (a0.N == 0) then
            if (a0.M == 0) then
              if ((List.length a0.Args : Int) == 0) then
                some true
              else
                (portolanref04_has a0.Op 76).bind fun x48 =>
                some x48
            else
              (portolanref04_has a0.Op 77).bind fun x46 =>
              if x46 then
                if ((List.length a0.Args : Int) == 0) then
                  some true
                else
                  (portolanref04_has a0.Op 76).bind fun x47 =>
                  some x47
              else
                some false
          else
            (portolanref04_has a0.Op 78).bind fun x38 =>
            if x38 then
              if (a0.M == 0) then
                if ((List.length a0.Args : Int) == 0) then
                  some true
                else
                  (portolanref04_has a0.Op 76).bind fun x45 =>
                  some x45
              else
                (portolanref04_has a0.Op 77).bind fun x43 =>
                if x43 then
                  if ((List.length a0.Args : Int) == 0) then
                    some true
                  else
                    (portolanref04_has a0.Op 76).bind fun x44 =>
                    some x44
                else
                  some false
            else
              (portolanref04_has a0.Op 110).bind fun x39 =>
              if x39 then
                if (a0.M == 0) then
                  if ((List.length a0.Args : Int) == 0) then
                    some true
                  else
                    (portolanref04_has a0.Op 76).bind fun x42 =>
                    some x42
                else
                  (portolanref04_has a0.Op 77).bind fun x40 =>
                  if x40 then
                    if ((List.length a0.Args : Int) == 0) then
                      some true
                    else
                      (portolanref04_has a0.Op 76).bind fun x41 =>
                      some x41
                  else
                    some false
              else
                some false
        else
          (portolanref04_has a0.Op 66).bind fun x26 =>
          if x26 then
            if (a0.N == 0) then
              if (a0.M == 0) then
                if ((List.length a0.Args : Int) == 0) then
                  some true
                else
                  (portolanref04_has a0.Op 76).bind fun x37 =>
                  some x37
              else
                (portolanref04_has a0.Op 77).bind fun x35 =>
                if x35 then
                  if ((List.length a0.Args : Int) == 0) then
                    some true
                  else
                    (portolanref04_has a0.Op 76).bind fun x36 =>
                    some x36
                else
                  some false
            else
              (portolanref04_has a0.Op 78).bind fun x27 =>
              if x27 then
                if (a0.M == 0) then
                  if ((List.length a0.Args : Int) == 0) then
                    some true
                  else
                    (portolanref04_has a0.Op 76).bind fun x34 =>
                    some x34
                else
                  (portolanref04_has a0.Op 77).bind fun x32 =>
                  if x32 then
                    if ((List.length a0.Args : Int) == 0) then
                      some true
                    else
                      (portolanref04_has a0.Op 76).bind fun x33 =>
                      some x33
                  else
                    some false
              else
                (portolanref04_has a0.Op 110).bind fun x28 =>
                if x28 then
                  if (a0.M == 0) then
                    if ((List.length a0.Args : Int) == 0) then
                      some true
                    else
                      (portolanref04_has a0.Op 76).bind fun x31 =>
                      some x31
                  else
                    (portolanref04_has a0.Op 77).bind fun x29 =>
                    if x29 then
                      if ((List.length a0.Args : Int) == 0) then
                        some true
                      else
                        (portolanref04_has a0.Op 76).bind fun x30 =>
                        some x30
                    else
                      some false
                else
                  some false
          else
            some false
      else
        (portolanref04_has a0.Op 65).bind fun x2 =>
        if x2 then
          if (a0.B == 0) then
            if (a0.N == 0) then
              if (a0.M == 0) then
                if ((List.length a0.Args : Int) == 0) then
                  some true
                else
                  (portolanref04_has a0.Op 76).bind fun x25 =>
                  some x25
              else
                (portolanref04_has a0.Op 77).bind fun x23 =>
                if x23 then
                  if ((List.length a0.Args : Int) == 0) then
                    some true
                  else
                    (portolanref04_has a0.Op 76).bind fun x24 =>
                    some x24
                else
                  some false
            else
              (portolanref04_has a0.Op 78).bind fun x15 =>
              if x15 then
                if (a0.M == 0) then
                  if ((List.length a0.Args : Int) == 0) then
                    some true
                  else
                    (portolanref04_has a0.Op 76).bind fun x22 =>
                    some x22
                else
                  (portolanref04_has a0.Op 77).bind fun x20 =>
                  if x20 then
                    if ((List.length a0.Args : Int) == 0) then
                      some true
                    else
                      (portolanref04_has a0.Op 76).bind fun x21 =>
                      some x21
                  else
                    some false
              else
                (portolanref04_has a0.Op 110).bind fun x16 =>
                if x16 then
                  if (a0.M == 0) then
                    if ((List.length a0.Args : Int) == 0) then
                      some true
                    else
                      (portolanref04_has a0.Op 76).bind fun x19 =>
                      some x19
                  else
                    (portolanref04_has a0.Op 77).bind fun x17 =>
                    if x17 then
                      if ((List.length a0.Args : Int) == 0) then
                        some true
                      else
                        (portolanref04_has a0.Op 76).bind fun x18 =>
                        some x18
                    else
                      some false
                else
                  some false
          else
            (portolanref04_has a0.Op 66).bind fun x3 =>
            if x3 then
              if (a0.N == 0) then
                if (a0.M == 0) then
                  if ((List.length a0.Args : Int) == 0) then
                    some true
                  else
                    (portolanref04_has a0.Op 76).bind fun x14 =>
                    some x14
                else
                  (portolanref04_has a0.Op 77).bind fun x12 =>
                  if x12 then
                    if ((List.length a0.Args : Int) == 0) then
                      some true
                    else
                      (portolanref04_has a0.Op 76).bind fun x13 =>
                      some x13
                  else
                    some false
              else
                (portolanref04_has a0.Op 78).bind fun x4 =>
                if x4 then
                  if (a0.M == 0) then
                    if ((List.length a0.Args : Int) == 0) then
                      some true
                    else
                      (portolanref04_has a0.Op 76).bind fun x11 =>
                      some x11
                  else
                    (portolanref04_has a0.Op 77).bind fun x9 =>
                    if x9 then
                      if ((List.length a0.Args : Int) == 0) then
                        some true
                      else
                        (portolanref04_has a0.Op 76).bind fun x10 =>
                        some x10
                    else
                      some false
                else
                  (portolanref04_has a0.Op 110).bind fun x5 =>
                  if x5 then
                    if (a0.M == 0) then
                      if ((List.length a0.Args : Int) == 0) then
                        some true
                      else
                        (portolanref04_has a0.Op 76).bind fun x8 =>
                        some x8
                    else
                      (portolanref04_has a0.Op 77).bind fun x6 =>
                      if x6 then
                        if ((List.length a0.Args : Int) == 0) then
                          some true
                        else
                          (portolanref04_has a0.Op 76).bind fun x7 =>
                          some x7
                      else
                        some false
                  else
                    some false
            else
              some false
        else
          some false
    else
      some false
end Go.Pf
end
section
namespace Go.Pf
open Go.Pp
def portolanref04_Ins.j3 (a2 : Ins) (x14 : Bool) : Option (Bool) :=
  if x14 then
    (portolanref04_within a2.N 0 7).bind fun x15 =>
    some x15
  else
    some true
def portolanref04_Ins.k2 (a0 : Prog) (a2 : Ins) : Option (Bool) :=
  if (a2.Op == 19) then
    (portolanref04_within a2.N 0 (w64 ((List.length a0.Funcs : Int) - 1))).bind fun x20 =>
    if x20 then
      (ixL a0.Funcs a2.N).bind fun x21 =>
      some ((List.length a2.Args : Int) == x21.Params)
    else
      some false
  else
    if (a2.Op == 1) then
      (portolanref04_within a2.N (-2147483648) 2147483648).bind fun x19 =>
      some x19
    else
      if (a2.Op == 16) then
        (portolanref04_within a2.N (-8) 8).bind fun x18 =>
        some x18
      else
        if (a2.Op == 10) then
          (portolanref04_within a2.N 0 8).bind fun x16 =>
          if x16 then
            (portolanref04_within a2.M 0 8).bind fun x17 =>
            some x17
          else
            some false
        else
          if (a2.Op == 11) then
            portolanref04_Ins.j3 a2 true
          else
            if (a2.Op == 12) then
              portolanref04_Ins.j3 a2 true
            else
              if (a2.Op == 13) then
                portolanref04_Ins.j3 a2 true
              else
                if (a2.Op == 14) then
                  portolanref04_Ins.j3 a2 true
                else
                  portolanref04_Ins.j3 a2 (a2.Op == 15)
def portolanref04_Ins.b2 (x3 : Func) (x8 : List Int) : Nat → Unit → Option (LR (Unit) (Bool))
  | i2, _ =>
    (ixL x8 (i2 : Int)).bind fun x22 =>
    (portolanref04_within x22 1 (w64 ((List.length x3.Blocks : Int) - 1))).bind fun x23 =>
    if x23 then
      some (.next ())
    else
      some (.ret false)
def portolanref04_Ins.k1 (a0 : Prog) (a2 : Ins) (x3 : Func) : Option (Bool) :=
  (portolanref04_Next a2).bind fun x8 =>
  aft (forN (List.length x8 : Int) (portolanref04_Ins.b2 x3 x8) ()) (fun s => portolanref04_Ins.k2 a0 a2) (fun r => some r)
def portolanref04_Ins.b1 (x3 : Func) (x6 : List Int) : Nat → Unit → Option (LR (Unit) (Bool))
  | i1, _ =>
    (ixL x6 (i1 : Int)).bind fun x24 =>
    (portolanref04_within x24 0 (w64 ((List.length x3.Kinds : Int) - 1))).bind fun x25 =>
    if x25 then
      some (.next ())
    else
      some (.ret false)
def portolanref04_Ins.j2 (a0 : Prog) (a2 : Ins) (x3 : Func) (x6 : List Int) : Option (Bool) :=
  aft (forN (List.length x6 : Int) (portolanref04_Ins.b1 x3 x6) ()) (fun s => portolanref04_Ins.k1 a0 a2 x3) (fun r => some r)
def portolanref04_Ins.j1 (a0 : Prog) (a1 : Int) (a2 : Ins) (x2 : Bool) : Option (Bool) :=
  if x2 then
    some false
  else
    (ixL a0.Funcs a1).bind fun x3 =>
    (portolanref04_Uses a2).bind fun x4 =>
    (portolanref04_Sets a2).bind fun x5 =>
    if x5.2 then
      (appL 8 x4 [x5.1]).bind fun x26 =>
      portolanref04_Ins.j2 a0 a2 x3 x26
    else
      portolanref04_Ins.j2 a0 a2 x3 x4
def portolanref04_Ins (a0 : Prog) (a1 : Int) (a2 : Ins) : Option (Bool) :=
  (portolanref04_within a1 0 (w64 ((List.length a0.Funcs : Int) - 1))).bind fun x27 =>
  if x27 then
    (portolanref03_Parts a2.Op).bind fun x28 =>
    if (ByteArray.toList x28 == ByteArray.toList ({ data := #[] } : ByteArray)) then
      portolanref04_Ins.j1 a0 a1 a2 true
    else
      (portolanref04_bare a2).bind fun x29 =>
      portolanref04_Ins.j1 a0 a1 a2 (!x29)
  else
    portolanref04_Ins.j1 a0 a1 a2 true
end Go.Pf
end
section
namespace Go.Pf
open Go.Pp
def portolanref04_Check.k1  : Option (Int) :=
  some 0
def portolanref04_Check.k2  : Option (LR (Unit) (Int)) :=
  some (.next ())
def portolanref04_Check.k3  : Option (LR (Unit) (Int)) :=
  some (.next ())
def portolanref04_Check.b3 (a0 : Prog) (x4 : Func) (i1 : Nat) (i2 : Nat) : Int → Option (LR (Int) (Int))
  | x7 =>
    (ixL x4.Blocks (i2 : Int)).bind fun x8 =>
    if decide (x7 < (List.length x8.Code : Int)) then
      (ixL x8.Code x7).bind fun x9 =>
      (portolanref04_Ins a0 (i1 : Int) x9).bind fun x10 =>
      if x10 then
        some (.next (w64 (x7 + 1)))
      else
        some (.ret 5)
    else
      some (.brk x7)
def portolanref04_Check.b2 (a0 : Prog) (x4 : Func) (i1 : Nat) : Nat → Unit → Option (LR (Unit) (Int))
  | i2, _ =>
    aft (whileF (portolanref04_Check.b3 a0 x4 i1 i2) 18446744073709551616 0) (fun s => portolanref04_Check.k3) (fun r => some (.ret r))
def portolanref04_Check.b1 (a0 : Prog) : Nat → Unit → Option (LR (Unit) (Int))
  | i1, _ =>
    (ixL a0.Funcs (i1 : Int)).bind fun x4 =>
    (portolanref04_Func x4).bind fun x5 =>
    if x5 then
      aft (forN (List.length x4.Blocks : Int) (portolanref04_Check.b2 a0 x4 i1) ()) (fun s => portolanref04_Check.k2) (fun r => some (.ret r))
    else
      some (.ret 5)
def portolanref04_Check.j1 (a0 : Prog) (x2 : Bool) : Option (Int) :=
  if x2 then
    some 5
  else
    aft (forN (List.length a0.Funcs : Int) (portolanref04_Check.b1 a0) ()) (fun s => portolanref04_Check.k1) (fun r => some r)
def portolanref04_Check (a0 : Prog) : Option (Int) :=
  (portolanref04_within (List.length a0.Funcs : Int) 1 8).bind fun x11 =>
  if x11 then
    (ixL a0.Funcs 0).bind fun x12 =>
    if (x12.Params != 0) then
      portolanref04_Check.j1 a0 true
    else
      portolanref04_Check.j1 a0 (x12.Result != 0)
  else
    portolanref04_Check.j1 a0 true
end Go.Pf
end
section
namespace Go.Pf
open Go.Pp
def portolanlaw04_ShapeChecks.k1 (a0 : Prog) : Option (Bool) :=
  (shape_Check a0).bind fun x4 =>
  (portolanref04_Check a0).bind fun x5 =>
  some (x4 == x5)
def portolanlaw04_ShapeChecks.b1 (a0 : Prog) : Nat → Unit → Option (LR (Unit) (Bool))
  | i1, _ =>
    (ixL a0.Funcs (i1 : Int)).bind fun x6 =>
    (shape_Func x6).bind fun x7 =>
    (portolanref04_Func x6).bind fun x8 =>
    if x7 == x8 then
      some (.next ())
    else
      some (.ret false)
def portolanlaw04_ShapeChecks (a0 : Prog) : Option (Bool) :=
  (portolanlaw04_alive).bind fun x1 =>
  if x1 then
    (portolanref03_Great a0).bind fun x2 =>
    if x2 then
      some true
    else
      aft (forN (List.length a0.Funcs : Int) (portolanlaw04_ShapeChecks.b1 a0) ()) (fun s => portolanlaw04_ShapeChecks.k1 a0) (fun r => some r)
  else
    some false
end Go.Pf
end
section
namespace Go.Pf
open Go.Pp
def portolanref01_Ints.k1  : Option (Bool) :=
  some true
def portolanref01_Ints.b1 (a0 : List Int) (a1 : List Int) : Nat → Unit → Option (LR (Unit) (Bool))
  | i1, _ =>
    (ixL a0 (i1 : Int)).bind fun x2 =>
    (ixL a1 (i1 : Int)).bind fun x3 =>
    if (x2 != x3) then
      some (.ret false)
    else
      some (.next ())
def portolanref01_Ints (a0 : List Int) (a1 : List Int) : Option (Bool) :=
  if ((List.length a0 : Int) != (List.length a1 : Int)) then
    some false
  else
    aft (forN (List.length a0 : Int) (portolanref01_Ints.b1 a0 a1) ()) (fun s => portolanref01_Ints.k1) (fun r => some r)
end Go.Pf
end
section
namespace Go.Pf
open Go.Pp
def portolanlaw04_ShapeIns.j1 (a0 : Prog) (a1 : Int) (a2 : Ins) (x3 : Bool) : Option (Bool) :=
  if x3 then
    some true
  else
    (shape_Sets a2).bind fun x4 =>
    (portolanref04_Sets a2).bind fun x5 =>
    (shape_Ins a0 a1 a2).bind fun x6 =>
    (portolanref04_Ins a0 a1 a2).bind fun x7 =>
    if (x6 == x7) then
      (shape_Last a2.Op).bind fun x8 =>
      (portolanref04_Last a2.Op).bind fun x9 =>
      if (x8 == x9) then
        (shape_Uses a2).bind fun x10 =>
        (portolanref04_Uses a2).bind fun x11 =>
        (portolanref01_Ints x10 x11).bind fun x12 =>
        if x12 then
          if (x4.1 == x5.1) then
            if (x4.2 == x5.2) then
              (shape_Next a2).bind fun x13 =>
              (portolanref04_Next a2).bind fun x14 =>
              (portolanref01_Ints x13 x14).bind fun x15 =>
              some x15
            else
              some false
          else
            some false
        else
          some false
      else
        some false
    else
      some false
def portolanlaw04_ShapeIns (a0 : Prog) (a1 : Int) (a2 : Ins) : Option (Bool) :=
  (portolanlaw04_alive).bind fun x1 =>
  if x1 then
    (portolanref03_Great a0).bind fun x16 =>
    if x16 then
      portolanlaw04_ShapeIns.j1 a0 a1 a2 true
    else
      portolanlaw04_ShapeIns.j1 a0 a1 a2 (decide (100 < (List.length a2.Args : Int)))
  else
    some false
end Go.Pf
end
section
namespace Go.Pf
open Go.Pp
def portolanlaw04_ShapeLasts.k1  : Option (Bool) :=
  some true
def portolanlaw04_ShapeLasts.k2  : Option (LR (Unit) (Bool)) :=
  some (.next ())
def portolanlaw04_ShapeLasts.k3  : Option (LR (Unit) (Bool)) :=
  some (.next ())
def portolanlaw04_ShapeLasts.k5  : Option (LR (Unit) (Bool)) :=
  some (.next ())
def portolanlaw04_ShapeLasts.b5 (x5 : Func) (x13 : List Int) : Nat → Unit → Option (LR (Unit) (Bool))
  | i5, _ =>
    (ixL x13 (i5 : Int)).bind fun x15 =>
    if decide (x15 < 0) then
      some (.ret false)
    else
      if decide ((List.length x5.Kinds : Int) ≤ x15) then
        some (.ret false)
      else
        some (.next ())
def portolanlaw04_ShapeLasts.k4 (x5 : Func) (x7 : Block) (i3 : Nat) : Option (LR (Unit) (Bool)) :=
  (ixL x7.Code (i3 : Int)).bind fun x12 =>
  (shape_Uses x12).bind fun x13 =>
  aft (forN (List.length x13 : Int) (portolanlaw04_ShapeLasts.b5 x5 x13) ()) (fun s => portolanlaw04_ShapeLasts.k5) (fun r => some (.ret r))
def portolanlaw04_ShapeLasts.b4 (x5 : Func) (x10 : List Int) : Nat → Unit → Option (LR (Unit) (Bool))
  | i4, _ =>
    (ixL x10 (i4 : Int)).bind fun x16 =>
    if decide (x16 < 1) then
      some (.ret false)
    else
      if decide ((List.length x5.Blocks : Int) ≤ x16) then
        some (.ret false)
      else
        some (.next ())
def portolanlaw04_ShapeLasts.j2 (x5 : Func) (x7 : Block) (x10 : List Int) (i3 : Nat) : Option (LR (Unit) (Bool)) :=
  aft (forN (List.length x10 : Int) (portolanlaw04_ShapeLasts.b4 x5 x10) ()) (fun s => portolanlaw04_ShapeLasts.k4 x5 x7 i3) (fun r => some (.ret r))
def portolanlaw04_ShapeLasts.b3 (x5 : Func) (x7 : Block) : Nat → Unit → Option (LR (Unit) (Bool))
  | i3, _ =>
    (ixL x7.Code (i3 : Int)).bind fun x9 =>
    (shape_Next x9).bind fun x10 =>
    (shape_Last x9.Op).bind fun x17 =>
    if x17 == ((i3 : Int) == w64 ((List.length x7.Code : Int) - 1)) then
      if decide (0 < (List.length x10 : Int)) then
        if decide ((i3 : Int) < w64 ((List.length x7.Code : Int) - 1)) then
          some (.ret false)
        else
          if ((List.length x10 : Int) == 0) then
            (shape_Last x9.Op).bind fun x19 =>
            if x19 then
              if (x9.Op != 23) then
                some (.ret false)
              else
                portolanlaw04_ShapeLasts.j2 x5 x7 x10 i3
            else
              portolanlaw04_ShapeLasts.j2 x5 x7 x10 i3
          else
            portolanlaw04_ShapeLasts.j2 x5 x7 x10 i3
      else
        if ((List.length x10 : Int) == 0) then
          (shape_Last x9.Op).bind fun x18 =>
          if x18 then
            if (x9.Op != 23) then
              some (.ret false)
            else
              portolanlaw04_ShapeLasts.j2 x5 x7 x10 i3
          else
            portolanlaw04_ShapeLasts.j2 x5 x7 x10 i3
        else
          portolanlaw04_ShapeLasts.j2 x5 x7 x10 i3
    else
      some (.ret false)
def portolanlaw04_ShapeLasts.b2 (x5 : Func) : Nat → Unit → Option (LR (Unit) (Bool))
  | i2, _ =>
    (ixL x5.Blocks (i2 : Int)).bind fun x7 =>
    aft (forN (List.length x7.Code : Int) (portolanlaw04_ShapeLasts.b3 x5 x7) ()) (fun s => portolanlaw04_ShapeLasts.k3) (fun r => some (.ret r))
def portolanlaw04_ShapeLasts.b1 (a0 : Prog) : Nat → Unit → Option (LR (Unit) (Bool))
  | i1, _ =>
    (ixL a0.Funcs (i1 : Int)).bind fun x5 =>
    aft (forN (List.length x5.Blocks : Int) (portolanlaw04_ShapeLasts.b2 x5) ()) (fun s => portolanlaw04_ShapeLasts.k2) (fun r => some (.ret r))
def portolanlaw04_ShapeLasts.j1 (a0 : Prog) (x3 : Bool) : Option (Bool) :=
  if x3 then
    some true
  else
    aft (forN (List.length a0.Funcs : Int) (portolanlaw04_ShapeLasts.b1 a0) ()) (fun s => portolanlaw04_ShapeLasts.k1) (fun r => some r)
def portolanlaw04_ShapeLasts (a0 : Prog) : Option (Bool) :=
  (portolanlaw04_alive).bind fun x1 =>
  if x1 then
    (portolanref03_Great a0).bind fun x20 =>
    if x20 then
      portolanlaw04_ShapeLasts.j1 a0 true
    else
      (shape_Check a0).bind fun x21 =>
      portolanlaw04_ShapeLasts.j1 a0 (x21 != 0)
  else
    some false
end Go.Pf
end
section
namespace Go.Pf
open Go.Pp
def portolanlaw04_ShapeFirst.k1 (a0 : Prog) : Option (Bool) :=
  (ixL a0.Funcs 0).bind fun x5 =>
  some (x5.Params == 0)
def portolanlaw04_ShapeFirst.k2  : Option (LR (Unit) (Bool)) :=
  some (.next ())
def portolanlaw04_ShapeFirst.k3  : Option (LR (Unit) (Bool)) :=
  some (.next ())
def portolanlaw04_ShapeFirst.b3 (x14 : List Int) : Nat → Unit → Option (LR (Unit) (Bool))
  | i3, _ =>
    (ixL x14 (i3 : Int)).bind fun x16 =>
    if (x16 == 0) then
      some (.ret false)
    else
      some (.next ())
def portolanlaw04_ShapeFirst.j3 (x10 : Block) (x12 : Bool) : Option (LR (Unit) (Bool)) :=
  if x12 then
    some (.ret false)
  else
    (ixL x10.Code (w64 ((List.length x10.Code : Int) - 1))).bind fun x13 =>
    (shape_Next x13).bind fun x14 =>
    aft (forN (List.length x14 : Int) (portolanlaw04_ShapeFirst.b3 x14) ()) (fun s => portolanlaw04_ShapeFirst.k3) (fun r => some (.ret r))
def portolanlaw04_ShapeFirst.b2 (x6 : Func) : Nat → Unit → Option (LR (Unit) (Bool))
  | i2, _ =>
    (ixL x6.Blocks (i2 : Int)).bind fun x10 =>
    if ((List.length x10.Code : Int) == 0) then
      portolanlaw04_ShapeFirst.j3 x10 true
    else
      (ixL x10.Code (w64 ((List.length x10.Code : Int) - 1))).bind fun x17 =>
      (shape_Last x17.Op).bind fun x18 =>
      portolanlaw04_ShapeFirst.j3 x10 (!x18)
def portolanlaw04_ShapeFirst.j2 (x6 : Func) (x8 : Bool) : Option (LR (Unit) (Bool)) :=
  if x8 then
    some (.ret false)
  else
    aft (forN (List.length x6.Blocks : Int) (portolanlaw04_ShapeFirst.b2 x6) ()) (fun s => portolanlaw04_ShapeFirst.k2) (fun r => some (.ret r))
def portolanlaw04_ShapeFirst.b1 (a0 : Prog) : Nat → Unit → Option (LR (Unit) (Bool))
  | i1, _ =>
    (ixL a0.Funcs (i1 : Int)).bind fun x6 =>
    if ((List.length x6.Blocks : Int) == 0) then
      portolanlaw04_ShapeFirst.j2 x6 true
    else
      portolanlaw04_ShapeFirst.j2 x6 (decide ((List.length x6.Kinds : Int) < x6.Params))
def portolanlaw04_ShapeFirst.j1 (a0 : Prog) (x3 : Bool) : Option (Bool) :=
  if x3 then
    some true
  else
    aft (forN (List.length a0.Funcs : Int) (portolanlaw04_ShapeFirst.b1 a0) ()) (fun s => portolanlaw04_ShapeFirst.k1 a0) (fun r => some r)
def portolanlaw04_ShapeFirst (a0 : Prog) : Option (Bool) :=
  (portolanlaw04_alive).bind fun x1 =>
  if x1 then
    (portolanref03_Great a0).bind fun x19 =>
    if x19 then
      portolanlaw04_ShapeFirst.j1 a0 true
    else
      (shape_Check a0).bind fun x20 =>
      portolanlaw04_ShapeFirst.j1 a0 (x20 != 0)
  else
    some false
end Go.Pf
end
section
namespace Go.Pf
open Go.Pp
def flow_Next.j1 (a0 : Func) (a1 : Int) (x2 : Bool) : Option (List Int) :=
  if x2 then
    some []
  else
    (ixL a0.Blocks a1).bind fun x3 =>
    if ((List.length x3.Code : Int) == 0) then
      some []
    else
      (ixL x3.Code (w64 ((List.length x3.Code : Int) - 1))).bind fun x4 =>
      (shape_Next x4).bind fun x5 =>
      some x5
def flow_Next (a0 : Func) (a1 : Int) : Option (List Int) :=
  if decide (a1 < 0) then
    flow_Next.j1 a0 a1 true
  else
    flow_Next.j1 a0 a1 (decide ((List.length a0.Blocks : Int) ≤ a1))
end Go.Pf
end
section
namespace Go.Pf
open Go.Pp
def flow_Edges.k1 (x1 : List Edge) : Option (List Edge) :=
  some x1
def flow_Edges.k2 (x4 : List Edge) : Option (LR (List Edge) (List Edge)) :=
  some (.next x4)
def flow_Edges.b2 (x3 : List Int) (i1 : Nat) : Nat → (List Edge) → Option (LR ((List Edge)) (List Edge))
  | i2, x4 =>
    (ixL x3 (i2 : Int)).bind fun x6 =>
    (appL 16 x4 [Edge.mk (i1 : Int) x6]).bind fun x7 =>
    some (.next x7)
def flow_Edges.b1 (a0 : Func) : Nat → (List Edge) → Option (LR ((List Edge)) (List Edge))
  | i1, x1 =>
    (flow_Next a0 (i1 : Int)).bind fun x3 =>
    aft (forN (List.length x3 : Int) (flow_Edges.b2 x3 i1) x1) (fun s => flow_Edges.k2 s) (fun r => some (.ret r))
def flow_Edges (a0 : Func) : Option (List Edge) :=
  aft (forN (List.length a0.Blocks : Int) (flow_Edges.b1 a0) []) (fun s => flow_Edges.k1 s) (fun r => some r)
end Go.Pf
end
section
namespace Go.Pf
open Go.Pp
def slices_IndexFunc_Edge.k1  : Option (Int) :=
  some (-1)
def slices_IndexFunc_Edge.b1 (a0 : List Edge) (a1 : Edge → Option (Bool)) : Nat → Unit → Option (LR (Unit) (Int))
  | i1, _ =>
    (ixL a0 (i1 : Int)).bind fun x2 =>
    (a1 x2).bind fun x3 =>
    if x3 then
      some (.ret (i1 : Int))
    else
      some (.next ())
def slices_IndexFunc_Edge (a0 : List Edge) (a1 : Edge → Option (Bool)) : Option (Int) :=
  aft (forN (List.length a0 : Int) (slices_IndexFunc_Edge.b1 a0 a1) ()) (fun s => slices_IndexFunc_Edge.k1) (fun r => some r)
end Go.Pf
end
section
namespace Go.Pf
open Go.Pp
def slices_DeleteFunc_Edge.k1 (x2 : List Edge) (x3 : Int) : Option (List Edge) :=
  (tailL x2 x3).bind fun x5 =>
  (clrL x2 (Int.toNat x3) (Edge.mk 0 0)).bind fun x6 =>
  (headL x6 x3).bind fun x7 =>
  some x7
def slices_DeleteFunc_Edge.b1 (a1 : Edge → Option (Bool)) : ((List Edge) × Int × Int) → Option (LR ((List Edge) × Int × Int) (List Edge))
  | (x2, x3, x4) =>
    if decide (x4 < (List.length x2 : Int)) then
      (ixL x2 x4).bind fun x8 =>
      (a1 x8).bind fun x9 =>
      if x9 then
        some (.next (x2, x3, w64 (x4 + 1)))
      else
        (ixL x2 x3).bind fun x10 =>
        (updL x2 x3 x8).bind fun x11 =>
        some (.next (x11, w64 (x3 + 1), w64 (x4 + 1)))
    else
      some (.brk (x2, x3, x4))
def slices_DeleteFunc_Edge (a0 : List Edge) (a1 : Edge → Option (Bool)) : Option (List Edge) :=
  (slices_IndexFunc_Edge a0 a1).bind fun x1 =>
  if (x1 == (-1)) then
    some a0
  else
    aft (whileF (slices_DeleteFunc_Edge.b1 a1) 18446744073709551616 (a0, x1, w64 (x1 + 1))) (fun s => slices_DeleteFunc_Edge.k1 s.1 s.2.1) (fun r => some r)
end Go.Pf
end
section
namespace Go.Pf
open Go.Pp
def edge_Critical_1 (a0 : Edge) (a1 : List Int) (a2 : Func) : Option (Bool) :=
  (ixL a1 a0.To).bind fun x1 =>
  if decide (x1 < 2) then
    some true
  else
    (flow_Next a2 a0.From).bind fun x2 =>
    some (decide ((List.length x2 : Int) < 2))
end Go.Pf
end
section
namespace Go.Pf
open Go.Pp
def edge_Critical.k1 (a0 : Func) (x2 : List Edge) (x3 : List Int) : Option (List Edge) :=
  (slices_DeleteFunc_Edge x2 (fun y0 => edge_Critical_1 y0 x3 a0)).bind fun x5 =>
  some x5
def edge_Critical.b1 (x2 : List Edge) : Nat → (List Int) → Option (LR ((List Int)) (List Edge))
  | i1, x3 =>
    (ixL x2 (i1 : Int)).bind fun x6 =>
    (ixL x3 x6.To).bind fun x7 =>
    (updL x3 x6.To (w64 (x7 + 1))).bind fun x8 =>
    some (.next x8)
def edge_Critical (a0 : Func) : Option (List Edge) :=
  (mkL 8 0 (List.length a0.Blocks : Int) (List.length a0.Blocks : Int)).bind fun x1 =>
  (flow_Edges a0).bind fun x2 =>
  aft (forN (List.length x2 : Int) (edge_Critical.b1 x2) x1) (fun s => edge_Critical.k1 a0 x2 s) (fun r => some r)
end Go.Pf
end
section
namespace Go.Pf
open Go.Pp
def slices_Clone_Block (a0 : List Block) : Option (List Block) := appL 24 [] a0
end Go.Pf
end
section
namespace Go.Pf
open Go.Pp
def slices_Clone_Ins (a0 : List Ins) : Option (List Ins) := appL 72 [] a0
end Go.Pf
end
section
namespace Go.Pf
open Go.Pp
def edge_lead (a0 : Block) (a1 : Int) (a2 : Int) : Option (Block) :=
  (slices_Clone_Ins a0.Code).bind fun x1 =>
  (ixL x1 (w64 ((List.length x1 : Int) - 1))).bind fun x2 =>
  if (x2.N == a1) then
    (updL x1 (w64 ((List.length x1 : Int) - 1)) (Ins.mk x2.Op x2.D x2.A x2.B a2 x2.M x2.Args)).bind fun x4 =>
    some (Block.mk x4)
  else
    (updL x1 (w64 ((List.length x1 : Int) - 1)) (Ins.mk x2.Op x2.D x2.A x2.B x2.N a2 x2.Args)).bind fun x3 =>
    some (Block.mk x3)
end Go.Pf
end
section
namespace Go.Pf
open Go.Pp
def edge_Split.k1 (a0 : Func) (x3 : List Block) : Option (Func × Int) :=
  some (Func.mk a0.Kinds a0.Base a0.Params a0.Result x3, 0)
def edge_Split.b1 (x1 : List Edge) : Nat → (List Block) → Option (LR ((List Block)) (Func × Int))
  | i1, x3 =>
    (ixL x1 (i1 : Int)).bind fun x5 =>
    (ixL x3 x5.From).bind fun x6 =>
    (edge_lead x6 x5.To (List.length x3 : Int)).bind fun x7 =>
    (updL x3 x5.From x7).bind fun x8 =>
    (appL 24 x8 [Block.mk [Ins.mk 21 0 0 0 x5.To 0 []]]).bind fun x9 =>
    some (.next x9)
def edge_Split (a0 : Func) : Option (Func × Int) :=
  (edge_Critical a0).bind fun x1 =>
  if decide (40 < w64 ((List.length a0.Blocks : Int) + (List.length x1 : Int))) then
    some (Func.mk [] [] 0 0 [], 9)
  else
    (slices_Clone_Block a0.Blocks).bind fun x2 =>
    aft (forN (List.length x1 : Int) (edge_Split.b1 x1) x2) (fun s => edge_Split.k1 a0 s) (fun r => some r)
end Go.Pf
end
section
namespace Go.Pf
open Go.Pp
def portolanlaw13_alive  : Option (Bool) :=
  (edge_Critical (Func.mk [0] [(-1)] 0 0 [Block.mk [Ins.mk 22 0 0 0 1 2 []], Block.mk [Ins.mk 21 0 0 0 2 0 []], Block.mk [Ins.mk 23 0 0 0 0 0 []]])).bind fun x1 =>
  (edge_Split (Func.mk [0] [(-1)] 0 0 [Block.mk [Ins.mk 22 0 0 0 1 2 []], Block.mk [Ins.mk 21 0 0 0 2 0 []], Block.mk [Ins.mk 23 0 0 0 0 0 []]])).bind fun x2 =>
  if (x2.2 == 0) then
    if ((List.length x1 : Int) == 1) then
      (ixL x1 0).bind fun x3 =>
      if decide (x3.From = 0) && decide (x3.To = 2) then
        if ((List.length x2.1.Blocks : Int) == 4) then
          (ixL x2.1.Blocks 0).bind fun x4 =>
          (ixL x4.Code 0).bind fun x5 =>
          if (x5.M == 3) then
            (ixL [Block.mk [Ins.mk 22 0 0 0 1 2 []], Block.mk [Ins.mk 21 0 0 0 2 0 []], Block.mk [Ins.mk 23 0 0 0 0 0 []]] 0).bind fun x6 =>
            (ixL x6.Code 0).bind fun x7 =>
            if (x7.M == 2) then
              (edge_Critical x2.1).bind fun x8 =>
              some ((List.length x8 : Int) == 0)
            else
              some false
          else
            some false
        else
          some false
      else
        some false
    else
      some false
  else
    some false
end Go.Pf
end
section
namespace Go.Pf
open Go.Pp
def portolanlaw13_out (a0 : Prog) : Option (Bool) :=
  (portolanref03_Great a0).bind fun x1 =>
  if x1 then
    some true
  else
    (portolanref04_Check a0).bind fun x2 =>
    some (x2 != 0)
end Go.Pf
end
section
namespace Go.Pf
open Go.Pp
def edge_Whole.k1 (x1 : List Func) : Option (Prog × Int) :=
  some (Prog.mk x1, 0)
def edge_Whole.b1 (a0 : Prog) : Nat → (List Func) → Option (LR ((List Func)) (Prog × Int))
  | i1, x1 =>
    (ixL a0.Funcs (i1 : Int)).bind fun x3 =>
    (edge_Split x3).bind fun x4 =>
    if (x4.2 != 0) then
      some (.ret (Prog.mk [], x4.2))
    else
      (appL 88 x1 [x4.1]).bind fun x5 =>
      some (.next x5)
def edge_Whole (a0 : Prog) : Option (Prog × Int) :=
  aft (forN (List.length a0.Funcs : Int) (edge_Whole.b1 a0) []) (fun s => edge_Whole.k1 s) (fun r => some r)
end Go.Pf
end
section
namespace Go.Pf
open Go.Pp
def portolanlaw13_through.j1 (a0 : Func) (a1 : Int) (x2 : Bool) : Option (Int) :=
  if x2 then
    (ixL a0.Blocks a1).bind fun x3 =>
    (ixL x3.Code 0).bind fun x4 =>
    some x4.N
  else
    some a1
def portolanlaw13_through (a0 : Func) (a1 : Int) (a2 : Int) : Option (Int) :=
  if decide (a2 ≤ a1) then
    portolanlaw13_through.j1 a0 a1 (decide (a1 < (List.length a0.Blocks : Int)))
  else
    portolanlaw13_through.j1 a0 a1 false
end Go.Pf
end
section
namespace Go.Pf
open Go.Pp
def portolanlaw13_EdgeNone.k1  : Option (Bool) :=
  some true
def portolanlaw13_EdgeNone.k2  : Option (LR (Unit) (Bool)) :=
  some (.next ())
def portolanlaw13_EdgeNone.b2 (x6 : Func) (x7 : Func) : Nat → Unit → Option (LR (Unit) (Bool))
  | i2, _ =>
    (ixL x6.Blocks (i2 : Int)).bind fun x11 =>
    (ixL x11.Code (w64 ((List.length x11.Code : Int) - 1))).bind fun x12 =>
    (ixL x7.Blocks (i2 : Int)).bind fun x13 =>
    (ixL x13.Code (w64 ((List.length x13.Code : Int) - 1))).bind fun x14 =>
    (portolanlaw13_through x7 x14.N (List.length x6.Blocks : Int)).bind fun x15 =>
    if (x15 != x12.N) then
      if (x12.Op != 23) then
        some (.ret false)
      else
        if (x12.Op == 22) then
          (portolanlaw13_through x7 x14.M (List.length x6.Blocks : Int)).bind fun x17 =>
          if (x17 != x12.M) then
            some (.ret false)
          else
            some (.next ())
        else
          some (.next ())
    else
      if (x12.Op == 22) then
        (portolanlaw13_through x7 x14.M (List.length x6.Blocks : Int)).bind fun x16 =>
        if (x16 != x12.M) then
          some (.ret false)
        else
          some (.next ())
      else
        some (.next ())
def portolanlaw13_EdgeNone.j1 (x6 : Func) (x7 : Func) (x9 : Bool) : Option (LR (Unit) (Bool)) :=
  if x9 then
    some (.ret false)
  else
    aft (forN (List.length x6.Blocks : Int) (portolanlaw13_EdgeNone.b2 x6 x7) ()) (fun s => portolanlaw13_EdgeNone.k2) (fun r => some (.ret r))
def portolanlaw13_EdgeNone.b1 (a0 : Prog) (x3 : Prog × Int) : Nat → Unit → Option (LR (Unit) (Bool))
  | i1, _ =>
    (ixL a0.Funcs (i1 : Int)).bind fun x6 =>
    (ixL x3.1.Funcs (i1 : Int)).bind fun x7 =>
    (edge_Critical x7).bind fun x18 =>
    if ((List.length x18 : Int) != 0) then
      portolanlaw13_EdgeNone.j1 x6 x7 true
    else
      portolanlaw13_EdgeNone.j1 x6 x7 (decide ((List.length x7.Blocks : Int) < (List.length x6.Blocks : Int)))
def portolanlaw13_EdgeNone (a0 : Prog) : Option (Bool) :=
  (portolanlaw13_alive).bind fun x1 =>
  if x1 then
    (portolanlaw13_out a0).bind fun x2 =>
    if x2 then
      some true
    else
      (edge_Whole a0).bind fun x3 =>
      if (x3.2 != 0) then
        if (x3.2 == 9) then
          some ((List.length x3.1.Funcs : Int) == 0)
        else
          some false
      else
        (shape_Check x3.1).bind fun x4 =>
        if (x4 != 0) then
          some false
        else
          aft (forN (List.length x3.1.Funcs : Int) (portolanlaw13_EdgeNone.b1 a0 x3) ()) (fun s => portolanlaw13_EdgeNone.k1) (fun r => some r)
  else
    some false
end Go.Pf
end
