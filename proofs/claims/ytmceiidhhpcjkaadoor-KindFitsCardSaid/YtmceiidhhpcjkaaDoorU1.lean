/- What the functions come to, in plain Lean, part 1 -/
import Derived.Test.YtmceiidhhpcjkaaDoorS2
set_option linter.all false
section
namespace Go.Pf
open Go.Pp
structure Ins where
  Op : Int
  D : Int
  A : Int
  B : Int
  N : Int
  M : Int
  Args : List Int
  deriving DecidableEq, Inhabited
structure Block where
  Code : List Ins
  deriving DecidableEq, Inhabited
structure Func where
  Kinds : List Int
  Base : List Int
  Params : Int
  Result : Int
  Blocks : List Block
  deriving DecidableEq, Inhabited
structure Prog where
  Funcs : List Func
  deriving DecidableEq, Inhabited
structure kind_state where
  set : List Int
  fresh : List Int
  deriving DecidableEq, Inhabited
end Go.Pf
end
section
namespace Go.Pf
open Go.Pp
def shape_within (a0 : Int) (a1 : Int) (a2 : Int) : Option (Bool) :=
  if decide (a1 ≤ a0) then
    some (decide (a0 ≤ a2))
  else
    some false
end Go.Pf
end
section
namespace Go.Pf
open Go.Pp
def shape_kinds.k1  : Option (Bool) :=
  some true
def shape_kinds.j2 (a0 : Func) (x4 : Int) (x5 : Int) (x7 : Bool) : Option (LR (Unit) (Bool)) :=
  if x7 then
    if (x5 != (-1)) then
      some (.ret false)
    else
      some (.next ())
  else
    if (x4 != 2) then
      some (.ret false)
    else
      (shape_within x5 0 (w64 ((List.length a0.Kinds : Int) - 1))).bind fun x8 =>
      if x8 then
        (ixL a0.Kinds x5).bind fun x9 =>
        if (x9 != 1) then
          some (.ret false)
        else
          some (.next ())
      else
        some (.ret false)
def shape_kinds.b1 (a0 : Func) : Nat → Unit → Option (LR (Unit) (Bool))
  | i1, _ =>
    (ixL a0.Kinds (i1 : Int)).bind fun x4 =>
    (ixL a0.Base (i1 : Int)).bind fun x5 =>
    if (x4 == 0) then
      shape_kinds.j2 a0 x4 x5 true
    else
      shape_kinds.j2 a0 x4 x5 (x4 == 1)
def shape_kinds.j1 (a0 : Func) (x2 : Bool) : Option (Bool) :=
  if x2 then
    some false
  else
    aft (forN (List.length a0.Kinds : Int) (shape_kinds.b1 a0) ()) (fun s => shape_kinds.k1) (fun r => some r)
def shape_kinds (a0 : Func) : Option (Bool) :=
  if decide (48 < (List.length a0.Kinds : Int)) then
    shape_kinds.j1 a0 true
  else
    shape_kinds.j1 a0 ((List.length a0.Base : Int) != (List.length a0.Kinds : Int))
end Go.Pf
end
section
namespace Go.Pf
open Go.Pp
def slices_Index_int.k1  : Option (Int) :=
  some (-1)
def slices_Index_int.b1 (a0 : List Int) (a1 : Int) : Nat → Unit → Option (LR (Unit) (Int))
  | i1, _ =>
    (ixL a0 (i1 : Int)).bind fun x2 =>
    if (a1 == x2) then
      some (.ret (i1 : Int))
    else
      some (.next ())
def slices_Index_int (a0 : List Int) (a1 : Int) : Option (Int) :=
  aft (forN (List.length a0 : Int) (slices_Index_int.b1 a0 a1) ()) (fun s => slices_Index_int.k1) (fun r => some r)
end Go.Pf
end
section
namespace Go.Pf
open Go.Pp
def slices_Contains_int (a0 : List Int) (a1 : Int) : Option (Bool) :=
  (slices_Index_int a0 a1).bind fun x1 =>
  some (decide (0 ≤ x1))
end Go.Pf
end
section
namespace Go.Pf
open Go.Pp
def slices_IndexFunc_Block.k1  : Option (Int) :=
  some (-1)
def slices_IndexFunc_Block.b1 (a0 : List Block) (a1 : Block → Option (Bool)) : Nat → Unit → Option (LR (Unit) (Int))
  | i1, _ =>
    (ixL a0 (i1 : Int)).bind fun x2 =>
    (a1 x2).bind fun x3 =>
    if x3 then
      some (.ret (i1 : Int))
    else
      some (.next ())
def slices_IndexFunc_Block (a0 : List Block) (a1 : Block → Option (Bool)) : Option (Int) :=
  aft (forN (List.length a0 : Int) (slices_IndexFunc_Block.b1 a0 a1) ()) (fun s => slices_IndexFunc_Block.k1) (fun r => some r)
end Go.Pf
end
section
namespace Go.Pf
open Go.Pp
def slices_ContainsFunc_Block (a0 : List Block) (a1 : Block → Option (Bool)) : Option (Bool) :=
  (slices_IndexFunc_Block a0 a1).bind fun x1 =>
  some (decide (0 ≤ x1))
end Go.Pf
end
section
namespace Go.Pf
open Go.Pp
def slices_IndexFunc_Ins.k1  : Option (Int) :=
  some (-1)
def slices_IndexFunc_Ins.b1 (a0 : List Ins) (a1 : Ins → Option (Bool)) : Nat → Unit → Option (LR (Unit) (Int))
  | i1, _ =>
    (ixL a0 (i1 : Int)).bind fun x2 =>
    (a1 x2).bind fun x3 =>
    if x3 then
      some (.ret (i1 : Int))
    else
      some (.next ())
def slices_IndexFunc_Ins (a0 : List Ins) (a1 : Ins → Option (Bool)) : Option (Int) :=
  aft (forN (List.length a0 : Int) (slices_IndexFunc_Ins.b1 a0 a1) ()) (fun s => slices_IndexFunc_Ins.k1) (fun r => some r)
end Go.Pf
end
section
namespace Go.Pf
open Go.Pp
def shape_Last (a0 : Int) : Option (Bool) :=
  (shape_within a0 21 23).bind fun x1 =>
  some x1
end Go.Pf
end
section
namespace Go.Pf
open Go.Pp
def shape_block_1 (a0 : Ins) : Option (Bool) :=
  (shape_Last a0.Op).bind fun x1 =>
  some x1
end Go.Pf
end
section
namespace Go.Pf
open Go.Pp
def shape_block (a0 : Block) : Option (Bool) :=
  (shape_within (List.length a0.Code : Int) 1 40).bind fun x1 =>
  if x1 then
    (slices_IndexFunc_Ins a0.Code shape_block_1).bind fun x2 =>
    some (x2 == w64 ((List.length a0.Code : Int) - 1))
  else
    some false
end Go.Pf
end
section
namespace Go.Pf
open Go.Pp
def shape_Func_1 (a0 : Block) : Option (Bool) :=
  (shape_block a0).bind fun x1 =>
  some (!x1)
end Go.Pf
end
section
namespace Go.Pf
open Go.Pp
def shape_Func.j2 (a0 : Func) (x4 : Bool) : Option (Bool) :=
  if x4 then
    some false
  else
    (shape_within (List.length a0.Blocks : Int) 1 40).bind fun x5 =>
    if x5 then
      (slices_ContainsFunc_Block a0.Blocks shape_Func_1).bind fun x6 =>
      some (!x6)
    else
      some false
def shape_Func.j1 (a0 : Func) (x2 : Bool) : Option (Bool) :=
  if x2 then
    some false
  else
    (headL a0.Kinds a0.Params).bind fun x7 =>
    (slices_Contains_int x7 2).bind fun x8 =>
    if x8 then
      shape_Func.j2 a0 true
    else
      (shape_within a0.Result 0 1).bind fun x9 =>
      shape_Func.j2 a0 (!x9)
def shape_Func (a0 : Func) : Option (Bool) :=
  (shape_kinds a0).bind fun x10 =>
  if x10 then
    (shape_within a0.Params 0 (if (List.length a0.Kinds : Int) < 4 then (List.length a0.Kinds : Int) else 4)).bind fun x11 =>
    shape_Func.j1 a0 (!x11)
  else
    shape_Func.j1 a0 true
end Go.Pf
end
section
namespace Go.Pf
open Go.Pp
def slices_ContainsFunc_Ins (a0 : List Ins) (a1 : Ins → Option (Bool)) : Option (Bool) :=
  (slices_IndexFunc_Ins a0 a1).bind fun x1 =>
  some (decide (0 ≤ x1))
end Go.Pf
end
section
namespace Go.Pf
open Go.Pp
def code_Parts (a0 : Int) : Option (ByteArray) :=
  if decide (a0 < 0) then
    some ({ data := #[] } : ByteArray)
  else
    if decide (24 ≤ a0) then
      some ({ data := #[] } : ByteArray)
    else
      (ixL partsL a0).bind fun x1 =>
      some x1
end Go.Pf
end
section
namespace Go.Pf
open Go.Pp
def stringslite_IndexByte (a0 : ByteArray) (a1 : Int) : Option (Int) := some (ixB a0 a1)
end Go.Pf
end
section
namespace Go.Pf
open Go.Pp
def strings_IndexByte (a0 : ByteArray) (a1 : Int) : Option (Int) :=
  (stringslite_IndexByte a0 a1).bind fun x1 =>
  some x1
end Go.Pf
end
section
namespace Go.Pf
open Go.Pp
def shape_has (a0 : Int) (a1 : Int) : Option (Bool) :=
  (code_Parts a0).bind fun x1 =>
  (strings_IndexByte x1 a1).bind fun x2 =>
  some (decide (0 ≤ x2))
end Go.Pf
end
section
namespace Go.Pf
open Go.Pp
def shape_Uses.j2 (a0 : Ins) (x2 : List Int) : Option (List Int) :=
  (shape_has a0.Op 76).bind fun x3 =>
  if x3 then
    (appL 8 x2 a0.Args).bind fun x4 =>
    some x4
  else
    some x2
def shape_Uses.j1 (a0 : Ins) (x1 : List Int) : Option (List Int) :=
  (shape_has a0.Op 66).bind fun x5 =>
  if x5 then
    (appL 8 x1 [a0.B]).bind fun x6 =>
    shape_Uses.j2 a0 x6
  else
    shape_Uses.j2 a0 x1
def shape_Uses (a0 : Ins) : Option (List Int) :=
  (shape_has a0.Op 65).bind fun x7 =>
  if x7 then
    shape_Uses.j1 a0 [a0.A]
  else
    shape_Uses.j1 a0 []
end Go.Pf
end
section
namespace Go.Pf
open Go.Pp
def shape_hasAny.k1  : Option (Bool) :=
  some false
def shape_hasAny.k2 (a0 : ByteArray) (x1 : Nat) : Option (LR (Nat) (Bool)) :=
  some (.next (nxP a0 x1))
def shape_hasAny.b2 (a0 : ByteArray) (a1 : ByteArray) (x1 : Nat) : Nat → Option (LR (Nat) (Bool))
  | x2 =>
    if decide (x2 < a1.size) then
      if ((decI a0 x1) == (decI a1 x2)) then
        some (.ret true)
      else
        some (.next (nxP a1 x2))
    else
      some (.brk x2)
def shape_hasAny.b1 (a0 : ByteArray) (a1 : ByteArray) : Nat → Option (LR (Nat) (Bool))
  | x1 =>
    if decide (x1 < a0.size) then
      aft (whileF (shape_hasAny.b2 a0 a1 x1) 18446744073709551616 0) (fun s => shape_hasAny.k2 a0 x1) (fun r => some (.ret r))
    else
      some (.brk x1)
def shape_hasAny (a0 : ByteArray) (a1 : ByteArray) : Option (Bool) :=
  aft (whileF (shape_hasAny.b1 a0 a1) 18446744073709551616 0) (fun s => shape_hasAny.k1) (fun r => some r)
end Go.Pf
end
section
namespace Go.Pf
open Go.Pp
def shape_bare_1 (a0 : Int) (a1 : ByteArray) (a2 : Ins) : Option (Bool) :=
  if (a0 != 0) then
    (code_Parts a2.Op).bind fun x1 =>
    (shape_hasAny x1 a1).bind fun x2 =>
    some (!x2)
  else
    some false
end Go.Pf
end
section
namespace Go.Pf
open Go.Pp
def shape_bare (a0 : Ins) : Option (Bool) :=
  (shape_bare_1 a0.D ({ data := #[68] } : ByteArray) a0).bind fun x1 =>
  if x1 then
    some false
  else
    (shape_bare_1 a0.A ({ data := #[65] } : ByteArray) a0).bind fun x2 =>
    if x2 then
      some false
    else
      (shape_bare_1 a0.B ({ data := #[66] } : ByteArray) a0).bind fun x3 =>
      if x3 then
        some false
      else
        (shape_bare_1 a0.N ({ data := #[78, 110] } : ByteArray) a0).bind fun x4 =>
        if x4 then
          some false
        else
          (shape_bare_1 a0.M ({ data := #[77] } : ByteArray) a0).bind fun x5 =>
          if x5 then
            some false
          else
            (shape_bare_1 (List.length a0.Args : Int) ({ data := #[76] } : ByteArray) a0).bind fun x6 =>
            some (!x6)
end Go.Pf
end
section
namespace Go.Pf
open Go.Pp
def shape_numbers.j1 (a1 : Ins) (x5 : Bool) : Option (Bool) :=
  if x5 then
    (shape_within a1.N 0 7).bind fun x6 =>
    some x6
  else
    some true
def shape_numbers (a0 : Prog) (a1 : Ins) : Option (Bool) :=
  if (a1.Op == 19) then
    (shape_within a1.N 0 (w64 ((List.length a0.Funcs : Int) - 1))).bind fun x11 =>
    if x11 then
      (ixL a0.Funcs a1.N).bind fun x12 =>
      some ((List.length a1.Args : Int) == x12.Params)
    else
      some false
  else
    if (a1.Op == 1) then
      (shape_within a1.N (-2147483648) 2147483648).bind fun x10 =>
      some x10
    else
      if (a1.Op == 16) then
        (shape_within a1.N (-8) 8).bind fun x9 =>
        some x9
      else
        if (a1.Op == 10) then
          (shape_within a1.N 0 8).bind fun x7 =>
          if x7 then
            (shape_within a1.M 0 8).bind fun x8 =>
            some x8
          else
            some false
        else
          if (a1.Op == 11) then
            shape_numbers.j1 a1 true
          else
            if (a1.Op == 12) then
              shape_numbers.j1 a1 true
            else
              if (a1.Op == 13) then
                shape_numbers.j1 a1 true
              else
                if (a1.Op == 14) then
                  shape_numbers.j1 a1 true
                else
                  shape_numbers.j1 a1 (a1.Op == 15)
end Go.Pf
end
section
namespace Go.Pf
open Go.Pp
def code_letters (a0 : Int) (a1 : Int) : Option (Bool) :=
  (code_Parts a0).bind fun x1 =>
  (strings_IndexByte x1 a1).bind fun x2 =>
  some (decide (0 ≤ x2))
end Go.Pf
end
section
namespace Go.Pf
open Go.Pp
def code_Sets (a0 : Int) : Option (Bool) :=
  (code_letters a0 68).bind fun x1 =>
  some x1
end Go.Pf
end
section
namespace Go.Pf
open Go.Pp
def shape_Sets (a0 : Ins) : Option (Int × Bool) :=
  (code_Sets a0.Op).bind fun x1 =>
  if x1 then
    some (a0.D, true)
  else
    some (0, false)
end Go.Pf
end
section
namespace Go.Pf
open Go.Pp
def shape_Ins_1 (a0 : Int) (a1 : Func) : Option (Bool) :=
  (shape_within a0 0 (w64 ((List.length a1.Kinds : Int) - 1))).bind fun x1 =>
  some (!x1)
end Go.Pf
end
section
namespace Go.Pf
open Go.Pp
def shape_Ins_2 (a0 : Int) (a1 : Func) : Option (Bool) :=
  (shape_within a0 1 (w64 ((List.length a1.Blocks : Int) - 1))).bind fun x1 =>
  some (!x1)
end Go.Pf
end
section
namespace Go.Pf
open Go.Pp
def slices_IndexFunc_int.k1  : Option (Int) :=
  some (-1)
def slices_IndexFunc_int.b1 (a0 : List Int) (a1 : Int → Option (Bool)) : Nat → Unit → Option (LR (Unit) (Int))
  | i1, _ =>
    (ixL a0 (i1 : Int)).bind fun x2 =>
    (a1 x2).bind fun x3 =>
    if x3 then
      some (.ret (i1 : Int))
    else
      some (.next ())
def slices_IndexFunc_int (a0 : List Int) (a1 : Int → Option (Bool)) : Option (Int) :=
  aft (forN (List.length a0 : Int) (slices_IndexFunc_int.b1 a0 a1) ()) (fun s => slices_IndexFunc_int.k1) (fun r => some r)
end Go.Pf
end
section
namespace Go.Pf
open Go.Pp
def slices_ContainsFunc_int (a0 : List Int) (a1 : Int → Option (Bool)) : Option (Bool) :=
  (slices_IndexFunc_int a0 a1).bind fun x1 =>
  some (decide (0 ≤ x1))
end Go.Pf
end
section
namespace Go.Pf
open Go.Pp
def slices_Sort_int (a0 : List Int) : Option (List Int) := if a0.length < 4611686018427387904 then some (a0.mergeSort (fun x y => decide (x ≤ y))) else none
end Go.Pf
end
section
namespace Go.Pf
open Go.Pp
def slices_Compact_int (a0 : List Int) : Option (List Int) := if a0.length ≤ 9223372036854775807 then some (Go.Lib.compact a0) else none
end Go.Pf
end
section
namespace Go.Pf
open Go.Pp
def shape_Next.j1 (x1 : List Int) : Option (List Int) :=
  (slices_Sort_int x1).bind fun x2 =>
  (slices_Compact_int x2).bind fun x3 =>
  some x3
def shape_Next (a0 : Ins) : Option (List Int) :=
  if (a0.Op == 22) then
    shape_Next.j1 [a0.N, a0.M]
  else
    if (a0.Op == 21) then
      shape_Next.j1 [a0.N]
    else
      shape_Next.j1 []
end Go.Pf
end
section
namespace Go.Pf
open Go.Pp
def shape_Ins.j2 (a2 : Ins) (x3 : Func) (x5 : List Int) : Option (Bool) :=
  (slices_ContainsFunc_int x5 (fun y0 => shape_Ins_1 y0 x3)).bind fun x6 =>
  if x6 then
    some false
  else
    (shape_Next a2).bind fun x7 =>
    (slices_ContainsFunc_int x7 (fun y0 => shape_Ins_2 y0 x3)).bind fun x8 =>
    some (!x8)
def shape_Ins.j1 (a0 : Prog) (a1 : Int) (a2 : Ins) (x2 : Bool) : Option (Bool) :=
  if x2 then
    some false
  else
    (ixL a0.Funcs a1).bind fun x3 =>
    (shape_Uses a2).bind fun x4 =>
    (shape_Sets a2).bind fun x9 =>
    if x9.2 then
      (appL 8 x4 [x9.1]).bind fun x10 =>
      shape_Ins.j2 a2 x3 x10
    else
      shape_Ins.j2 a2 x3 x4
def shape_Ins (a0 : Prog) (a1 : Int) (a2 : Ins) : Option (Bool) :=
  (shape_within a1 0 (w64 ((List.length a0.Funcs : Int) - 1))).bind fun x11 =>
  if x11 then
    (code_Parts a2.Op).bind fun x12 =>
    if (ByteArray.toList x12 == ByteArray.toList ({ data := #[] } : ByteArray)) then
      shape_Ins.j1 a0 a1 a2 true
    else
      (shape_bare a2).bind fun x13 =>
      if x13 then
        (shape_numbers a0 a2).bind fun x14 =>
        shape_Ins.j1 a0 a1 a2 (!x14)
      else
        shape_Ins.j1 a0 a1 a2 true
  else
    shape_Ins.j1 a0 a1 a2 true
end Go.Pf
end
section
namespace Go.Pf
open Go.Pp
def shape_Check_1 (a0 : Ins) (a1 : Prog) (a2 : Int) : Option (Bool) :=
  (shape_Ins a1 a2 a0).bind fun x1 =>
  some (!x1)
end Go.Pf
end
section
namespace Go.Pf
open Go.Pp
def shape_Check.k1  : Option (Int) :=
  some 0
def shape_Check.k2  : Option (LR (Unit) (Int)) :=
  some (.next ())
def shape_Check.b2 (a0 : Prog) (x4 : Func) (i1 : Nat) : Nat → Unit → Option (LR (Unit) (Int))
  | i2, _ =>
    (ixL x4.Blocks (i2 : Int)).bind fun x7 =>
    (slices_ContainsFunc_Ins x7.Code (fun y0 => shape_Check_1 y0 a0 (i1 : Int))).bind fun x8 =>
    if x8 then
      some (.ret 5)
    else
      some (.next ())
def shape_Check.b1 (a0 : Prog) : Nat → Unit → Option (LR (Unit) (Int))
  | i1, _ =>
    (ixL a0.Funcs (i1 : Int)).bind fun x4 =>
    (shape_Func x4).bind fun x5 =>
    if x5 then
      aft (forN (List.length x4.Blocks : Int) (shape_Check.b2 a0 x4 i1) ()) (fun s => shape_Check.k2) (fun r => some (.ret r))
    else
      some (.ret 5)
def shape_Check.j1 (a0 : Prog) (x2 : Bool) : Option (Int) :=
  if x2 then
    some 5
  else
    aft (forN (List.length a0.Funcs : Int) (shape_Check.b1 a0) ()) (fun s => shape_Check.k1) (fun r => some r)
def shape_Check (a0 : Prog) : Option (Int) :=
  (shape_within (List.length a0.Funcs : Int) 1 8).bind fun x9 =>
  if x9 then
    (ixL a0.Funcs 0).bind fun x10 =>
    if (x10.Params != 0) then
      shape_Check.j1 a0 true
    else
      shape_Check.j1 a0 (x10.Result != 0)
  else
    shape_Check.j1 a0 true
end Go.Pf
end
section
namespace Go.Pf
open Go.Pp
def kind_Fits.k2 (a2 : Ins) (x5 : Func) (x7 : Func) : Option (Bool) :=
  (ixL x5.Kinds a2.D).bind fun x9 =>
  some (x9 == x7.Result)
def kind_Fits.b2 (a2 : Ins) (x5 : Func) (x7 : Func) : Nat → Unit → Option (LR (Unit) (Bool))
  | i2, _ =>
    (ixL a2.Args (i2 : Int)).bind fun x10 =>
    (ixL x5.Kinds x10).bind fun x11 =>
    (ixL x7.Kinds (i2 : Int)).bind fun x12 =>
    if (x11 != x12) then
      some (.ret false)
    else
      some (.next ())
def kind_Fits.k1 (a0 : Prog) (a2 : Ins) (x5 : Func) : Option (Bool) :=
  if (a2.Op == 2) then
    (ixL x5.Kinds a2.D).bind fun x17 =>
    (ixL x5.Kinds a2.A).bind fun x18 =>
    if (x17 == x18) then
      some (x17 != 2)
    else
      some false
  else
    if (a2.Op == 15) then
      (ixL x5.Base a2.D).bind fun x16 =>
      some (x16 == a2.A)
    else
      if (a2.Op == 16) then
        (ixL x5.Base a2.D).bind fun x14 =>
        (ixL x5.Base a2.A).bind fun x15 =>
        some (x14 == x15)
      else
        if (a2.Op == 23) then
          (ixL x5.Kinds a2.A).bind fun x13 =>
          some (x13 == x5.Result)
        else
          if (a2.Op == 19) then
            (ixL a0.Funcs a2.N).bind fun x7 =>
            aft (forN (List.length a2.Args : Int) (kind_Fits.b2 a2 x5 x7) ()) (fun s => kind_Fits.k2 a2 x5 x7) (fun r => some r)
          else
            some true
def kind_Fits.b1 (a2 : Ins) (x5 : Func) : Nat → Unit → Option (LR (Unit) (Bool))
  | i1, _ =>
    (ixL [a2.D, a2.A, a2.B] (i1 : Int)).bind fun x19 =>
    (chkB (decide (0 ≤ a2.Op) && decide (a2.Op < 24)) ()).bind fun x20 =>
    ((if 0 ≤ (i1 : Int) ∧ (i1 : Int) < 3 then ixL rowsL (a2.Op * 3 + (i1 : Int)) else none)).bind fun x21 =>
    if (x21 != (-1)) then
      (ixL x5.Kinds x19).bind fun x22 =>
      if (x22 != x21) then
        some (.ret false)
      else
        some (.next ())
    else
      some (.next ())
def kind_Fits.j1 (a0 : Prog) (a1 : Int) (a2 : Ins) (x4 : Bool) : Option (Bool) :=
  if x4 then
    some false
  else
    (ixL a0.Funcs a1).bind fun x5 =>
    aft (forN 3 (kind_Fits.b1 a2 x5) ()) (fun s => kind_Fits.k1 a0 a2 x5) (fun r => some r)
def kind_Fits (a0 : Prog) (a1 : Int) (a2 : Ins) : Option (Bool) :=
  if decide (a1 < 0) then
    kind_Fits.j1 a0 a1 a2 true
  else
    if decide ((List.length a0.Funcs : Int) ≤ a1) then
      kind_Fits.j1 a0 a1 a2 true
    else
      if decide (a2.Op < 0) then
        kind_Fits.j1 a0 a1 a2 true
      else
        kind_Fits.j1 a0 a1 a2 (decide (24 ≤ a2.Op))
end Go.Pf
end
section
namespace Go.Pf
open Go.Pp
def kind_fit.k1  : Option (Bool) :=
  some true
def kind_fit.k2  : Option (LR (Unit) (Bool)) :=
  some (.next ())
def kind_fit.k3  : Option (LR (Unit) (Bool)) :=
  some (.next ())
def kind_fit.b3 (a0 : Prog) (x4 : Block) (i1 : Nat) : Nat → Unit → Option (LR (Unit) (Bool))
  | i3, _ =>
    (ixL x4.Code (i3 : Int)).bind fun x6 =>
    (kind_Fits a0 (i1 : Int) x6).bind fun x7 =>
    if x7 then
      some (.next ())
    else
      some (.ret false)
def kind_fit.b2 (a0 : Prog) (x2 : Func) (i1 : Nat) : Nat → Unit → Option (LR (Unit) (Bool))
  | i2, _ =>
    (ixL x2.Blocks (i2 : Int)).bind fun x4 =>
    aft (forN (List.length x4.Code : Int) (kind_fit.b3 a0 x4 i1) ()) (fun s => kind_fit.k3) (fun r => some (.ret r))
def kind_fit.b1 (a0 : Prog) : Nat → Unit → Option (LR (Unit) (Bool))
  | i1, _ =>
    (ixL a0.Funcs (i1 : Int)).bind fun x2 =>
    aft (forN (List.length x2.Blocks : Int) (kind_fit.b2 a0 x2 i1) ()) (fun s => kind_fit.k2) (fun r => some (.ret r))
def kind_fit (a0 : Prog) : Option (Bool) :=
  aft (forN (List.length a0.Funcs : Int) (kind_fit.b1 a0) ()) (fun s => kind_fit.k1) (fun r => some r)
end Go.Pf
end
section
namespace Go.Pf
open Go.Pp
def slices_Clone_uint64 (a0 : List Int) : Option (List Int) := appL 8 [] a0
end Go.Pf
end
section
namespace Go.Pf
open Go.Pp
def bitset_neat.k1 (x1 : List Int) : Option (List Int) :=
  some x1
def bitset_neat.b1  : (List Int) → Option (LR ((List Int)) (List Int))
  | x1 =>
    if decide (0 < (List.length x1 : Int)) then
      (ixL x1 (w64 ((List.length x1 : Int) - 1))).bind fun x2 =>
      if (x2 == 0) then
        (headL x1 (w64 ((List.length x1 : Int) - 1))).bind fun x3 =>
        some (.next x3)
      else
        some (.brk x1)
    else
      some (.brk x1)
def bitset_neat (a0 : List Int) : Option (List Int) :=
  aft (whileF bitset_neat.b1 18446744073709551616 a0) (fun s => bitset_neat.k1 s) (fun r => some r)
end Go.Pf
end
section
namespace Go.Pf
open Go.Pp
def bitset_With.k1 (x2 : List Int) : Option (List Int) :=
  (bitset_neat x2).bind fun x4 =>
  some x4
def bitset_With.j2 (x5 : Int) (x8 : List Int) : Option (LR (List Int) (List Int)) :=
  (ixL x8 (w64 (Int.tdiv x5 64))).bind fun x9 =>
  (chkB (decide (¬ (Int.tmod x5 64) < 0)) ()).bind fun x10 =>
  (updL x8 (w64 (Int.tdiv x5 64)) (u64 (orW 64 x9 (u64 (shlE 1 (Int.tmod x5 64) 64))))).bind fun x11 =>
  some (.next x11)
def bitset_With.j1 (x2 : List Int) (x5 : Int) (x7 : Bool) : Option (LR (List Int) (List Int)) :=
  if x7 then
    some (.next x2)
  else
    if decide (0 < w64 ((w64 ((w64 (Int.tdiv x5 64)) + 1)) - (List.length x2 : Int))) then
      (mkL 8 0 (w64 ((w64 ((w64 (Int.tdiv x5 64)) + 1)) - (List.length x2 : Int))) (w64 ((w64 ((w64 (Int.tdiv x5 64)) + 1)) - (List.length x2 : Int)))).bind fun x12 =>
      (appL 8 x2 x12).bind fun x13 =>
      bitset_With.j2 x5 x13
    else
      bitset_With.j2 x5 x2
def bitset_With.b1 (a1 : List Int) : Nat → (List Int) → Option (LR ((List Int)) (List Int))
  | i1, x2 =>
    (ixL a1 (i1 : Int)).bind fun x5 =>
    if decide (x5 < 0) then
      bitset_With.j1 x2 x5 true
    else
      bitset_With.j1 x2 x5 (decide (4096 ≤ x5))
def bitset_With (a0 : List Int) (a1 : List Int) : Option (List Int) :=
  (slices_Clone_uint64 a0).bind fun x1 =>
  aft (forN (List.length a1 : Int) (bitset_With.b1 a1) x1) (fun s => bitset_With.k1 s) (fun r => some r)
end Go.Pf
end
section
namespace Go.Pf
open Go.Pp
def bitset_Has (a0 : List Int) (a1 : Int) : Option (Bool) :=
  if decide (0 ≤ a1) then
    if decide (w64 (Int.tdiv a1 64) < (List.length a0 : Int)) then
      (ixL a0 (w64 (Int.tdiv a1 64))).bind fun x1 =>
      (chkB (decide (¬ (Int.tmod a1 64) < 0)) ()).bind fun x2 =>
      some (u64 (andW 64 (shrE x1 (Int.tmod a1 64) 64) 1) == 1)
    else
      some false
  else
    some false
end Go.Pf
end
section
namespace Go.Pf
open Go.Pp
def bitset_merge.k1 (x3 : List Int) : Option (List Int) :=
  (bitset_neat x3).bind fun x5 =>
  some x5
def bitset_merge.j1 (a2 : Int → Int → Option (Int)) (x3 : List Int) (x7 : Int) (i1 : Nat) : Option (LR (List Int) (List Int)) :=
  (ixL x3 (i1 : Int)).bind fun x8 =>
  (a2 x8 x7).bind fun x9 =>
  (updL x3 (i1 : Int) x9).bind fun x10 =>
  some (.next x10)
def bitset_merge.b1 (a1 : List Int) (a2 : Int → Int → Option (Int)) : Nat → (List Int) → Option (LR ((List Int)) (List Int))
  | i1, x3 =>
    if decide ((i1 : Int) < (List.length a1 : Int)) then
      (ixL a1 (i1 : Int)).bind fun x11 =>
      bitset_merge.j1 a2 x3 x11 i1
    else
      bitset_merge.j1 a2 x3 0 i1
def bitset_merge (a0 : List Int) (a1 : List Int) (a2 : Int → Int → Option (Int)) : Option (List Int) :=
  (mkL 8 0 (if (List.length a1 : Int) > (List.length a0 : Int) then (List.length a1 : Int) else (List.length a0 : Int)) (if (List.length a1 : Int) > (List.length a0 : Int) then (List.length a1 : Int) else (List.length a0 : Int))).bind fun x1 =>
  (some (cpyL x1 a0)).bind fun x2 =>
  aft (forN (List.length x2 : Int) (bitset_merge.b1 a1 a2) x2) (fun s => bitset_merge.k1 s) (fun r => some r)
end Go.Pf
end
section
namespace Go.Pf
open Go.Pp
def bitset_Join_1 (a0 : Int) (a1 : Int) : Option (Int) :=
  some (u64 (orW 64 a0 a1))
end Go.Pf
end
section
namespace Go.Pf
open Go.Pp
def bitset_Join.k1 (x1 : List Int) : Option (List Int) :=
  some x1
def bitset_Join.b1 (a0 : List (List Int)) : Nat → (List Int) → Option (LR ((List Int)) (List Int))
  | i1, x1 =>
    (ixL a0 (i1 : Int)).bind fun x3 =>
    (bitset_merge x1 x3 bitset_Join_1).bind fun x4 =>
    some (.next x4)
def bitset_Join (a0 : List (List Int)) : Option (List Int) :=
  aft (forN (List.length a0 : Int) (bitset_Join.b1 a0) []) (fun s => bitset_Join.k1 s) (fun r => some r)
end Go.Pf
end
section
namespace Go.Pf
open Go.Pp
def bitset_Without.k1 (x2 : List Int) : Option (List Int) :=
  (bitset_neat x2).bind fun x4 =>
  some x4
def bitset_Without.b1 (a1 : List Int) : Nat → (List Int) → Option (LR ((List Int)) (List Int))
  | i1, x2 =>
    (ixL a1 (i1 : Int)).bind fun x5 =>
    (bitset_Has x2 x5).bind fun x6 =>
    if x6 then
      (ixL x2 (w64 (Int.tdiv x5 64))).bind fun x7 =>
      (chkB (decide (¬ (Int.tmod x5 64) < 0)) ()).bind fun x8 =>
      (updL x2 (w64 (Int.tdiv x5 64)) (u64 (clrW 64 x7 (u64 (shlE 1 (Int.tmod x5 64) 64))))).bind fun x9 =>
      some (.next x9)
    else
      some (.next x2)
def bitset_Without (a0 : List Int) (a1 : List Int) : Option (List Int) :=
  (slices_Clone_uint64 a0).bind fun x1 =>
  aft (forN (List.length a1 : Int) (bitset_Without.b1 a1) x1) (fun s => bitset_Without.k1 s) (fun r => some r)
end Go.Pf
end
section
namespace Go.Pf
open Go.Pp
def kind_state_behind.j1 (a0 : kind_state) (x1 : Int × Bool) (x8 : List Int) : Option (kind_state) :=
  (bitset_With a0.set [x1.1]).bind fun x9 =>
  some (kind_state.mk x9 x8)
def kind_state_behind.j2 (a0 : kind_state) (x1 : Int × Bool) (x6 : List Int) (x12 : Bool) : Option (kind_state) :=
  if x12 then
    (bitset_With x6 [x1.1]).bind fun x13 =>
    kind_state_behind.j1 a0 x1 x13
  else
    kind_state_behind.j1 a0 x1 x6
def kind_state_behind.k1 (a0 : kind_state) (a1 : Func) (a2 : Ins) (x1 : Int × Bool) (x4 : List Int) : Option (kind_state) :=
  (bitset_Without a0.fresh x4).bind fun x6 =>
  (ixL a1.Kinds x1.1).bind fun x14 =>
  if (x14 == 2) then
    if (a2.Op != 16) then
      kind_state_behind.j2 a0 x1 x6 true
    else
      (bitset_Has a0.fresh a2.A).bind fun x15 =>
      kind_state_behind.j2 a0 x1 x6 x15
  else
    kind_state_behind.j2 a0 x1 x6 false
def kind_state_behind.j3 (x4 : List Int) (i1 : Nat) (x18 : Bool) : Option (LR (List Int) (kind_state)) :=
  if x18 then
    (appL 8 x4 [(i1 : Int)]).bind fun x19 =>
    some (.next x19)
  else
    some (.next x4)
def kind_state_behind.b1 (a1 : Func) (x1 : Int × Bool) : Nat → (List Int) → Option (LR ((List Int)) (kind_state))
  | i1, x4 =>
    (ixL a1.Base (i1 : Int)).bind fun x16 =>
    (ixL a1.Kinds (i1 : Int)).bind fun x20 =>
    if (x20 == 2) then
      kind_state_behind.j3 x4 i1 (x16 == x1.1)
    else
      kind_state_behind.j3 x4 i1 false
def kind_state_behind (a0 : kind_state) (a1 : Func) (a2 : Ins) : Option (kind_state) :=
  (shape_Sets a2).bind fun x1 =>
  if x1.2 then
    aft (forN (List.length a1.Base : Int) (kind_state_behind.b1 a1 x1) [x1.1]) (fun s => kind_state_behind.k1 a0 a1 a2 x1 s) (fun r => some r)
  else
    (bitset_Join [a0.set]).bind fun x2 =>
    (bitset_Join [a0.fresh]).bind fun x3 =>
    some (kind_state.mk x2 x3)
end Go.Pf
end
section
namespace Go.Pf
open Go.Pp
def kind_state_through.k1 (x2 : List Int) (x3 : List Int) : Option (kind_state) :=
  some (kind_state.mk x2 x3)
def kind_state_through.b1 (a1 : Func) (x1 : Block) : Nat → ((List Int) × (List Int)) → Option (LR ((List Int) × (List Int)) (kind_state))
  | i1, (x2, x3) =>
    (ixL x1.Code (i1 : Int)).bind fun x5 =>
    (kind_state_behind (kind_state.mk x2 x3) a1 x5).bind fun x6 =>
    some (.next (x6.set, x6.fresh))
def kind_state_through (a0 : kind_state) (a1 : Func) (a2 : Int) : Option (kind_state) :=
  (ixL a1.Blocks a2).bind fun x1 =>
  aft (forN (List.length x1.Code : Int) (kind_state_through.b1 a1 x1) (a0.set, a0.fresh)) (fun s => kind_state_through.k1 s.1 s.2) (fun r => some r)
end Go.Pf
end
section
namespace Go.Pf
open Go.Pp
def flow_Next.j1 (a0 : Func) (a1 : Int) (x2 : Bool) : Option (List Int) :=
  if x2 then
    some []
  else
    (ixL a0.Blocks a1).bind fun x3 =>
    if ((List.length x3.Code : Int) == 0) then
      some []
    else
      (ixL x3.Code (w64 ((List.length x3.Code : Int) - 1))).bind fun x4 =>
      (shape_Next x4).bind fun x5 =>
      some x5
def flow_Next (a0 : Func) (a1 : Int) : Option (List Int) :=
  if decide (a1 < 0) then
    flow_Next.j1 a0 a1 true
  else
    flow_Next.j1 a0 a1 (decide ((List.length a0.Blocks : Int) ≤ a1))
end Go.Pf
end
section
namespace Go.Pf
open Go.Pp
def bitset_Meet_1 (a0 : Int) (a1 : Int) : Option (Int) :=
  some (u64 (andW 64 a0 a1))
end Go.Pf
end
section
namespace Go.Pf
open Go.Pp
def bitset_Meet (a0 : List Int) (a1 : List Int) : Option (List Int) :=
  (bitset_merge a0 a1 bitset_Meet_1).bind fun x1 =>
  some x1
end Go.Pf
end
section
namespace Go.Pf
open Go.Pp
def slices_Equal_uint64.k1  : Option (Bool) :=
  some true
def slices_Equal_uint64.b1 (a0 : List Int) (a1 : List Int) : Nat → Unit → Option (LR (Unit) (Bool))
  | i1, _ =>
    (ixL a0 (i1 : Int)).bind fun x2 =>
    (ixL a1 (i1 : Int)).bind fun x3 =>
    if (x2 != x3) then
      some (.ret false)
    else
      some (.next ())
def slices_Equal_uint64 (a0 : List Int) (a1 : List Int) : Option (Bool) :=
  if ((List.length a0 : Int) != (List.length a1 : Int)) then
    some false
  else
    aft (forN (List.length a0 : Int) (slices_Equal_uint64.b1 a0 a1) ()) (fun s => slices_Equal_uint64.k1) (fun r => some r)
end Go.Pf
end
section
namespace Go.Pf
open Go.Pp
def bitset_Same (a0 : List Int) (a1 : List Int) : Option (Bool) :=
  (bitset_neat a0).bind fun x1 =>
  (bitset_neat a1).bind fun x2 =>
  (slices_Equal_uint64 x1 x2).bind fun x3 =>
  some x3
end Go.Pf
end
section
namespace Go.Pf
open Go.Pp
def kind_states.k2 (x4 : List (Int × kind_state)) : Option ((List (Int × kind_state))) :=
  some x4
def kind_states.k3 (x11 : List (Int × kind_state)) (x12 : List Int) : Option (LR ((List (Int × kind_state)) × List Int) ((List (Int × kind_state)))) :=
  some (.next (x11, x12))
def kind_states.j2 (x11 : List (Int × kind_state)) (x12 : List Int) (x14 : Int) (x16 : List Int) (x17 : List Int) (x21 : Bool) : Option (LR ((List (Int × kind_state)) × List Int) ((List (Int × kind_state)))) :=
  if x21 then
    (some (putMp x11 x14 (kind_state.mk x16 x17))).bind fun x22 =>
    (appL 8 x12 [x14]).bind fun x23 =>
    some (.next (x22, x23))
  else
    some (.next (x11, x12))
def kind_states.j1 (x11 : List (Int × kind_state)) (x12 : List Int) (x14 : Int) (x15 : kind_state) (x16 : List Int) (x17 : List Int) (x19 : Bool) : Option (LR ((List (Int × kind_state)) × List Int) ((List (Int × kind_state)))) :=
  if x19 then
    (bitset_Same x16 x15.set).bind fun x24 =>
    if x24 then
      (bitset_Same x17 x15.fresh).bind fun x25 =>
      kind_states.j2 x11 x12 x14 x16 x17 (!x25)
    else
      kind_states.j2 x11 x12 x14 x16 x17 true
  else
    kind_states.j2 x11 x12 x14 x16 x17 true
def kind_states.b3 (x9 : kind_state) (x10 : List Int) : Nat → ((List (Int × kind_state)) × (List Int)) → Option (LR ((List (Int × kind_state)) × (List Int)) ((List (Int × kind_state))))
  | i3, (x11, x12) =>
    (ixL x10 (i3 : Int)).bind fun x14 =>
    (some (Option.getD (getMp x11 x14) (kind_state.mk [] []))).bind fun x15 =>
    if (Option.isSome (getMp x11 x14)) then
      (bitset_Meet x15.set x9.set).bind fun x26 =>
      (bitset_Meet x15.fresh x9.fresh).bind fun x27 =>
      kind_states.j1 x11 x12 x14 x15 x26 x27 true
    else
      kind_states.j1 x11 x12 x14 x15 x9.set x9.fresh false
def kind_states.b2 (a0 : Func) : ((List (Int × kind_state)) × (List Int)) → Option (LR ((List (Int × kind_state)) × (List Int)) ((List (Int × kind_state))))
  | (x4, x5) =>
    if decide (0 < (List.length x5 : Int)) then
      (ixL x5 0).bind fun x6 =>
      (tailL x5 1).bind fun x7 =>
      (some (Option.getD (getMp x4 x6) (kind_state.mk [] []))).bind fun x8 =>
      (kind_state_through x8 a0 x6).bind fun x9 =>
      (flow_Next a0 x6).bind fun x10 =>
      aft (forN (List.length x10 : Int) (kind_states.b3 x9 x10) (x4, x7)) (fun s => kind_states.k3 s.1 s.2) (fun r => some (.ret r))
    else
      some (.brk (x4, x5))
def kind_states.k1 (a0 : Func) (x1 : List Int) : Option ((List (Int × kind_state))) :=
  (some (putMp [] 0 (kind_state.mk x1 []))).bind fun x3 =>
  aft (whileF (kind_states.b2 a0) 18446744073709551616 (x3, [0])) (fun s => kind_states.k2 s.1) (fun r => some r)
def kind_states.b1  : Nat → (List Int) → Option (LR ((List Int)) ((List (Int × kind_state))))
  | i1, x1 =>
    (bitset_With x1 [(i1 : Int)]).bind fun x28 =>
    some (.next x28)
def kind_states (a0 : Func) : Option ((List (Int × kind_state))) :=
  aft (forN a0.Params kind_states.b1 []) (fun s => kind_states.k1 a0 s) (fun r => some r)
end Go.Pf
end
section
namespace Go.Pf
open Go.Pp
def kind_asked.k1  : Option (Bool) :=
  some false
def kind_asked.k2  : Option (LR (Unit) (Bool)) :=
  some (.next ())
def kind_asked.k3 (a0 : Func) (x5 : List Int) (x6 : List Int) (x8 : Ins) : Option (LR (List Int × List Int) (Bool)) :=
  (kind_state_behind (kind_state.mk x5 x6) a0 x8).bind fun x11 =>
  some (.next (x11.set, x11.fresh))
def kind_asked.b3 (a1 : kind_state → Int → Option (Bool)) (x5 : List Int) (x6 : List Int) (x9 : List Int) : Nat → Unit → Option (LR (Unit) (Bool))
  | i3, _ =>
    (ixL x9 (i3 : Int)).bind fun x12 =>
    (a1 (kind_state.mk x5 x6) x12).bind fun x13 =>
    if x13 then
      some (.ret true)
    else
      some (.next ())
def kind_asked.b2 (a0 : Func) (a1 : kind_state → Int → Option (Bool)) (x4 : Block) : Nat → ((List Int) × (List Int)) → Option (LR ((List Int) × (List Int)) (Bool))
  | i2, (x5, x6) =>
    (ixL x4.Code (i2 : Int)).bind fun x8 =>
    (shape_Uses x8).bind fun x9 =>
    aft (forN (List.length x9 : Int) (kind_asked.b3 a1 x5 x6 x9) ()) (fun s => kind_asked.k3 a0 x5 x6 x8) (fun r => some (.ret r))
def kind_asked.b1 (a0 : Func) (a1 : kind_state → Int → Option (Bool)) : (Int × kind_state) → Option (LR Unit (Bool))
  | x3 =>
    (ixL a0.Blocks x3.1).bind fun x4 =>
    aft (forN (List.length x4.Code : Int) (kind_asked.b2 a0 a1 x4) (x3.2.set, x3.2.fresh)) (fun s => kind_asked.k2) (fun r => some (.ret r))
def kind_asked (a0 : Func) (a1 : kind_state → Int → Option (Bool)) : Option (Bool) :=
  (kind_states a0).bind fun x1 =>
  aft (rangeM x1 (kind_asked.b1 a0 a1)) (fun _ => kind_asked.k1) (fun r => some r)
end Go.Pf
end
section
namespace Go.Pf
open Go.Pp
def kind_Check_1 (a0 : kind_state) (a1 : Int) : Option (Bool) :=
  (bitset_Has a0.set a1).bind fun x1 =>
  some (!x1)
end Go.Pf
end
section
namespace Go.Pf
open Go.Pp
def kind_Check_2 (a0 : kind_state) (a1 : Int) (a2 : Func) : Option (Bool) :=
  (ixL a2.Kinds a1).bind fun x1 =>
  if (x1 == 2) then
    (bitset_Has a0.fresh a1).bind fun x2 =>
    some (!x2)
  else
    some false
end Go.Pf
end
section
namespace Go.Pf
open Go.Pp
def kind_Check.k2  : Option (Int) :=
  some 0
def kind_Check.b2 (a0 : Prog) : Nat → Unit → Option (LR (Unit) (Int))
  | i2, _ =>
    (ixL a0.Funcs (i2 : Int)).bind fun x5 =>
    (kind_asked x5 (fun y0 y1 => kind_Check_2 y0 y1 x5)).bind fun x6 =>
    if x6 then
      some (.ret 8)
    else
      some (.next ())
def kind_Check.k1 (a0 : Prog) : Option (Int) :=
  aft (forN (List.length a0.Funcs : Int) (kind_Check.b2 a0) ()) (fun s => kind_Check.k2) (fun r => some r)
def kind_Check.b1 (a0 : Prog) : Nat → Unit → Option (LR (Unit) (Int))
  | i1, _ =>
    (ixL a0.Funcs (i1 : Int)).bind fun x7 =>
    (kind_asked x7 kind_Check_1).bind fun x8 =>
    if x8 then
      some (.ret 7)
    else
      some (.next ())
def kind_Check (a0 : Prog) : Option (Int) :=
  (shape_Check a0).bind fun x1 =>
  if (x1 != 0) then
    some 5
  else
    (kind_fit a0).bind fun x2 =>
    if x2 then
      aft (forN (List.length a0.Funcs : Int) (kind_Check.b1 a0) ()) (fun s => kind_Check.k1 a0) (fun r => some r)
    else
      some 6
end Go.Pf
end
section
namespace Go.Pf
open Go.Pp
def portolanlaw08_tiny.j1 (x1 : List Ins) : Option (Prog) :=
  (appL 72 x1 [Ins.mk 17 0 2 0 0 0 [], Ins.mk 23 0 0 0 0 0 []]).bind fun x2 =>
  some (Prog.mk [Func.mk [0, 1, 2] [(-1), (-1), 1] 0 0 [Block.mk x2]])
def portolanlaw08_tiny (a0 : Bool) : Option (Prog) :=
  if a0 then
    (appL 72 [Ins.mk 10 1 0 0 0 2 [], Ins.mk 15 2 1 0 0 0 []] [Ins.mk 7 1 0 0 0 0 []]).bind fun x3 =>
    portolanlaw08_tiny.j1 x3
  else
    portolanlaw08_tiny.j1 [Ins.mk 10 1 0 0 0 2 [], Ins.mk 15 2 1 0 0 0 []]
end Go.Pf
end
section
namespace Go.Pf
open Go.Pp
def portolanlaw08_alive : Option (Bool) := some true
end Go.Pf
end
section
namespace Go.Pf
open Go.Pp
def portolanref03_Great.k1 (x1 : Int) : Option (Bool) :=
  some (decide (3000 < x1))
def portolanref03_Great.k2 (x4 : Int) : Option (LR (Int) (Bool)) :=
  some (.next x4)
def portolanref03_Great.k3 (x7 : Int) : Option (LR (Int) (Bool)) :=
  some (.next x7)
def portolanref03_Great.j1 (x3 : Func) (x7 : Int) (x8 : Int) (x10 : Bool) (i2 : Nat) : Option (LR (Int × Int) (Bool)) :=
  if x10 then
    (ixL x3.Blocks (i2 : Int)).bind fun x11 =>
    (ixL x11.Code x8).bind fun x12 =>
    some (.next (w64 (x7 + (List.length x12.Args : Int)), w64 (x8 + 1)))
  else
    some (.brk (x7, x8))
def portolanref03_Great.b3 (x3 : Func) (i2 : Nat) : (Int × Int) → Option (LR (Int × Int) (Bool))
  | (x7, x8) =>
    (ixL x3.Blocks (i2 : Int)).bind fun x13 =>
    if decide (x8 < (List.length x13.Code : Int)) then
      portolanref03_Great.j1 x3 x7 x8 (decide (x7 ≤ 3000)) i2
    else
      portolanref03_Great.j1 x3 x7 x8 false i2
def portolanref03_Great.b2 (x3 : Func) : Nat → Int → Option (LR (Int) (Bool))
  | i2, x4 =>
    if decide (x4 ≤ 3000) then
      (ixL x3.Blocks (i2 : Int)).bind fun x6 =>
      aft (whileF (portolanref03_Great.b3 x3 i2) 18446744073709551616 (w64 (x4 + (List.length x6.Code : Int)), 0)) (fun s => portolanref03_Great.k3 s.1) (fun r => some (.ret r))
    else
      some (.brk x4)
def portolanref03_Great.b1 (a0 : Prog) : Nat → Int → Option (LR (Int) (Bool))
  | i1, x1 =>
    if decide (x1 ≤ 3000) then
      (ixL a0.Funcs (i1 : Int)).bind fun x3 =>
      aft (forN (List.length x3.Blocks : Int) (portolanref03_Great.b2 x3) (w64 ((w64 ((w64 (x1 + (List.length x3.Kinds : Int))) + (List.length x3.Base : Int))) + (List.length x3.Blocks : Int)))) (fun s => portolanref03_Great.k2 s) (fun r => some (.ret r))
    else
      some (.brk x1)
def portolanref03_Great (a0 : Prog) : Option (Bool) :=
  aft (forN (List.length a0.Funcs : Int) (portolanref03_Great.b1 a0) (List.length a0.Funcs : Int)) (fun s => portolanref03_Great.k1 s) (fun r => some r)
end Go.Pf
end
section
namespace Go.Pf
open Go.Pp
def portolanlaw08_great.k1 (a0 : Prog) (x1 : Int) : Option (Bool) :=
  if decide (14 < x1) then
    some true
  else
    (portolanref03_Great a0).bind fun x3 =>
    some x3
def portolanlaw08_great.b1 (a0 : Prog) : Nat → Int → Option (LR (Int) (Bool))
  | i1, x1 =>
    if decide ((i1 : Int) < 9) then
      (ixL a0.Funcs (i1 : Int)).bind fun x4 =>
      some (.next (if w64 (Int.tdiv (List.length x4.Kinds : Int) 2) > (if (List.length x4.Blocks : Int) > x1 then (List.length x4.Blocks : Int) else x1) then w64 (Int.tdiv (List.length x4.Kinds : Int) 2) else (if (List.length x4.Blocks : Int) > x1 then (List.length x4.Blocks : Int) else x1)))
    else
      some (.brk x1)
def portolanlaw08_great (a0 : Prog) : Option (Bool) :=
  aft (forN (List.length a0.Funcs : Int) (portolanlaw08_great.b1 a0) 0) (fun s => portolanlaw08_great.k1 a0 s) (fun r => some r)
end Go.Pf
end
section
namespace Go.Pf
open Go.Pp
def portolanref03_Parts.j5 (a0 : Int) (x15 : Bool) : Option (ByteArray) :=
  if x15 then
    some ({ data := #[65] } : ByteArray)
  else
    if (a0 == 21) then
      some ({ data := #[78] } : ByteArray)
    else
      if (a0 == 22) then
        some ({ data := #[65, 78, 77] } : ByteArray)
      else
        some ({ data := #[] } : ByteArray)
def portolanref03_Parts.j4 (a0 : Int) (x13 : Bool) : Option (ByteArray) :=
  if x13 then
    some ({ data := #[65, 78, 66] } : ByteArray)
  else
    if (a0 == 16) then
      some ({ data := #[68, 65, 110] } : ByteArray)
    else
      if (a0 == 18) then
        some ({ data := #[65, 66] } : ByteArray)
      else
        if (a0 == 19) then
          some ({ data := #[68, 78, 76] } : ByteArray)
        else
          if (a0 == 20) then
            portolanref03_Parts.j5 a0 true
          else
            portolanref03_Parts.j5 a0 (a0 == 23)
def portolanref03_Parts.j3 (a0 : Int) (x11 : Bool) : Option (ByteArray) :=
  if x11 then
    some ({ data := #[68, 65, 78] } : ByteArray)
  else
    if (a0 == 12) then
      portolanref03_Parts.j4 a0 true
    else
      portolanref03_Parts.j4 a0 (a0 == 14)
def portolanref03_Parts.j2 (a0 : Int) (x8 : Bool) : Option (ByteArray) :=
  if x8 then
    some ({ data := #[68, 65, 66] } : ByteArray)
  else
    if (a0 == 7) then
      some ({ data := #[68] } : ByteArray)
    else
      if (a0 == 10) then
        some ({ data := #[68, 78, 77] } : ByteArray)
      else
        if (a0 == 11) then
          portolanref03_Parts.j3 a0 true
        else
          if (a0 == 13) then
            portolanref03_Parts.j3 a0 true
          else
            portolanref03_Parts.j3 a0 (a0 == 15)
def portolanref03_Parts.j1 (a0 : Int) (x3 : Bool) : Option (ByteArray) :=
  if x3 then
    some ({ data := #[68, 65] } : ByteArray)
  else
    if (a0 == 3) then
      portolanref03_Parts.j2 a0 true
    else
      if (a0 == 4) then
        portolanref03_Parts.j2 a0 true
      else
        if (a0 == 5) then
          portolanref03_Parts.j2 a0 true
        else
          if (a0 == 6) then
            portolanref03_Parts.j2 a0 true
          else
            portolanref03_Parts.j2 a0 (a0 == 9)
def portolanref03_Parts (a0 : Int) : Option (ByteArray) :=
  if (a0 == 1) then
    some ({ data := #[68, 110] } : ByteArray)
  else
    if (a0 == 2) then
      portolanref03_Parts.j1 a0 true
    else
      if (a0 == 8) then
        portolanref03_Parts.j1 a0 true
      else
        portolanref03_Parts.j1 a0 (a0 == 17)
end Go.Pf
end
section
namespace Go.Pf
open Go.Pp
def portolanref04_has.k1  : Option (Bool) :=
  some false
def portolanref04_has.b1 (a1 : Int) (x1 : ByteArray) : Nat → Unit → Option (LR (Unit) (Bool))
  | i1, _ =>
    (ixS x1 (i1 : Int)).bind fun x3 =>
    if (x3 == a1) then
      some (.ret true)
    else
      some (.next ())
def portolanref04_has (a0 : Int) (a1 : Int) : Option (Bool) :=
  (portolanref03_Parts a0).bind fun x1 =>
  aft (forN (ByteArray.size x1 : Int) (portolanref04_has.b1 a1 x1) ()) (fun s => portolanref04_has.k1) (fun r => some r)
end Go.Pf
end
section
namespace Go.Pf
open Go.Pp
def portolanref04_Sets (a0 : Ins) : Option (Int × Bool) :=
  (portolanref04_has a0.Op 68).bind fun x1 =>
  if x1 then
    some (a0.D, true)
  else
    some (0, false)
end Go.Pf
end
section
namespace Go.Pf
open Go.Pp
def portolanref04_within (a0 : Int) (a1 : Int) (a2 : Int) : Option (Bool) :=
  if decide (a1 ≤ a0) then
    some (decide (a0 ≤ a2))
  else
    some false
end Go.Pf
end
section
namespace Go.Pf
open Go.Pp
def portolanref04_bare (a0 : Ins) : Option (Bool) :=
  if (a0.D == 0) then
    if (a0.A == 0) then
      if (a0.B == 0) then
        if (a0.N == 0) then
          if (a0.M == 0) then
            if ((List.length a0.Args : Int) == 0) then
              some true
            else
              (portolanref04_has a0.Op 76).bind fun x95 =>
              some x95
          else
            (portolanref04_has a0.Op 77).bind fun x93 =>
            if x93 then
              if ((List.length a0.Args : Int) == 0) then
                some true
              else
                (portolanref04_has a0.Op 76).bind fun x94 =>
                some x94
            else
              some false
        else
          (portolanref04_has a0.Op 78).bind fun x85 =>
          if x85 then
            if (a0.M == 0) then
              if ((List.length a0.Args : Int) == 0) then
                some true
              else
                (portolanref04_has a0.Op 76).bind fun x92 =>
                some x92
            else
              (portolanref04_has a0.Op 77).bind fun x90 =>
              if x90 then
                if ((List.length a0.Args : Int) == 0) then
                  some true
                else
                  (portolanref04_has a0.Op 76).bind fun x91 =>
                  some x91
              else
                some false
          else
            (portolanref04_has a0.Op 110).bind fun x86 =>
            if x86 then
              if (a0.M == 0) then
                if ((List.length a0.Args : Int) == 0) then
                  some true
                else
                  (portolanref04_has a0.Op 76).bind fun x89 =>
                  some x89
              else
                (portolanref04_has a0.Op 77).bind fun x87 =>
                if x87 then
                  if ((List.length a0.Args : Int) == 0) then
                    some true
                  else
                    (portolanref04_has a0.Op 76).bind fun x88 =>
                    some x88
                else
                  some false
            else
              some false
      else
        (portolanref04_has a0.Op 66).bind fun x73 =>
        if x73 then
          if (a0.N == 0) then
            if (a0.M == 0) then
              if ((List.length a0.Args : Int) == 0) then
                some true
              else
                (portolanref04_has a0.Op 76).bind fun x84 =>
                some x84
            else
              (portolanref04_has a0.Op 77).bind fun x82 =>
              if x82 then
                if ((List.length a0.Args : Int) == 0) then
                  some true
                else
                  (portolanref04_has a0.Op 76).bind fun x83 =>
                  some x83
              else
                some false
          else
            (portolanref04_has a0.Op 78).bind fun x74 =>
            if x74 then
              if (a0.M == 0) then
                if ((List.length a0.Args : Int) == 0) then
                  some true
                else
                  (portolanref04_has a0.Op 76).bind fun x81 =>
                  some x81
              else
                (portolanref04_has a0.Op 77).bind fun x79 =>
                if x79 then
                  if ((List.length a0.Args : Int) == 0) then
                    some true
                  else
                    (portolanref04_has a0.Op 76).bind fun x80 =>
                    some x80
                else
                  some false
            else
              (portolanref04_has a0.Op 110).bind fun x75 =>
              if x75 then
                if (a0.M == 0) then
                  if ((List.length a0.Args : Int) == 0) then
                    some true
                  else
                    (portolanref04_has a0.Op 76).bind fun x78 =>
                    some x78
                else
                  (portolanref04_has a0.Op 77).bind fun x76 =>
                  if x76 then
                    if ((List.length a0.Args : Int) == 0) then
                      some true
                    else
                      (portolanref04_has a0.Op 76).bind fun x77 =>
                      some x77
                  else
                    some false
              else
                some false
        else
          some false
    else
      (portolanref04_has a0.Op 65).bind fun x49 =>
      if x49 then
        if (a0.B == 0) then
          if (a0.N == 0) then
            if (a0.M == 0) then
              if ((List.length a0.Args : Int) == 0) then
                some true
              else
                (portolanref04_has a0.Op 76).bind fun x72 =>
                some x72
            else
              (portolanref04_has a0.Op 77).bind fun x70 =>
              if x70 then
                if ((List.length a0.Args : Int) == 0) then
                  some true
                else
                  (portolanref04_has a0.Op 76).bind fun x71 =>
                  some x71
              else
                some false
          else
            (portolanref04_has a0.Op 78).bind fun x62 =>
            if x62 then
              if (a0.M == 0) then
                if ((List.length a0.Args : Int) == 0) then
                  some true
                else
                  (portolanref04_has a0.Op 76).bind fun x69 =>
                  some x69
              else
                (portolanref04_has a0.Op 77).bind fun x67 =>
                if x67 then
                  if ((List.length a0.Args : Int) == 0) then
                    some true
                  else
                    (portolanref04_has a0.Op 76).bind fun x68 =>
                    some x68
                else
                  some false
            else
              (portolanref04_has a0.Op 110).bind fun x63 =>
              if x63 then
                if (a0.M == 0) then
                  if ((List.length a0.Args : Int) == 0) then
                    some true
                  else
                    (portolanref04_has a0.Op 76).bind fun x66 =>
                    some x66
                else
                  (portolanref04_has a0.Op 77).bind fun x64 =>
                  if x64 then
                    if ((List.length a0.Args : Int) == 0) then
                      some true
                    else
                      (portolanref04_has a0.Op 76).bind fun x65 =>
                      some x65
                  else
                    some false
              else
                some false
        else
          (portolanref04_has a0.Op 66).bind fun x50 =>
          if x50 then
            if (a0.N == 0) then
              if (a0.M == 0) then
                if ((List.length a0.Args : Int) == 0) then
                  some true
                else
                  (portolanref04_has a0.Op 76).bind fun x61 =>
                  some x61
              else
                (portolanref04_has a0.Op 77).bind fun x59 =>
                if x59 then
                  if ((List.length a0.Args : Int) == 0) then
                    some true
                  else
                    (portolanref04_has a0.Op 76).bind fun x60 =>
                    some x60
                else
                  some false
            else
              (portolanref04_has a0.Op 78).bind fun x51 =>
              if x51 then
                if (a0.M == 0) then
                  if ((List.length a0.Args : Int) == 0) then
                    some true
                  else
                    (portolanref04_has a0.Op 76).bind fun x58 =>
                    some x58
                else
                  (portolanref04_has a0.Op 77).bind fun x56 =>
                  if x56 then
                    if ((List.length a0.Args : Int) == 0) then
                      some true
                    else
                      (portolanref04_has a0.Op 76).bind fun x57 =>
                      some x57
                  else
                    some false
              else
                (portolanref04_has a0.Op 110).bind fun x52 =>
                if x52 then
                  if (a0.M == 0) then
                    if ((List.length a0.Args : Int) == 0) then
                      some true
                    else
                      (portolanref04_has a0.Op 76).bind fun x55 =>
                      some x55
                  else
                    (portolanref04_has a0.Op 77).bind fun x53 =>
                    if x53 then
                      if ((List.length a0.Args : Int) == 0) then
                        some true
                      else
                        (portolanref04_has a0.Op 76).bind fun x54 =>
                        some x54
                    else
                      some false
                else
                  some false
          else
            some false
      else
        some false
  else
    (portolanref04_has a0.Op 68).bind fun x1 =>
    if x1 then
      if (a0.A == 0) then
        if (a0.B == 0) then
          if (a0.N == 0) then
            if (a0.M == 0) then
              if ((List.length a0.Args : Int) == 0) then
                some true
              else
                (portolanref04_has a0.Op 76).bind fun x48 =>
                some x48
            else
              (portolanref04_has a0.Op 77).bind fun x46 =>
              if x46 then
                if ((List.length a0.Args : Int) == 0) then
                  some true
                else
                  (portolanref04_has a0.Op 76).bind fun x47 =>
                  some x47
              else
                some false
          else
            (portolanref04_has a0.Op 78).bind fun x38 =>
            if x38 then
              if (a0.M == 0) then
                if ((List.length a0.Args : Int) == 0) then
                  some true
                else
                  (portolanref04_has a0.Op 76).bind fun x45 =>
                  some x45
              else
                (portolanref04_has a0.Op 77).bind fun x43 =>
                if x43 then
                  if ((List.length a0.Args : Int) == 0) then
                    some true
                  else
                    (portolanref04_has a0.Op 76).bind fun x44 =>
                    some x44
                else
                  some false
            else
              (portolanref04_has a0.Op 110).bind fun x39 =>
              if x39 then
                if (a0.M == 0) then
                  if ((List.length a0.Args : Int) == 0) then
                    some true
                  else
                    (portolanref04_has a0.Op 76).bind fun x42 =>
                    some x42
                else
                  (portolanref04_has a0.Op 77).bind fun x40 =>
                  if x40 then
                    if ((List.length a0.Args : Int) == 0) then
                      some true
                    else
                      (portolanref04_has a0.Op 76).bind fun x41 =>
                      some x41
                  else
                    some false
              else
                some false
        else
          (portolanref04_has a0.Op 66).bind fun x26 =>
          if x26 then
            if (a0.N == 0) then
              if (a0.M == 0) then
                if ((List.length a0.Args : Int) == 0) then
                  some true
                else
                  (portolanref04_has a0.Op 76).bind fun x37 =>
                  some x37
              else
                (portolanref04_has a0.Op 77).bind fun x35 =>
                if x35 then
                  if ((List.length a0.Args : Int) == 0) then
                    some true
                  else
                    (portolanref04_has a0.Op 76).bind fun x36 =>
                    some x36
                else
                  some false
            else
              (portolanref04_has a0.Op 78).bind fun x27 =>
              if x27 then
                if (a0.M == 0) then
                  if ((List.length a0.Args : Int) == 0) then
                    some true
                  else
                    (portolanref04_has a0.Op 76).bind fun x34 =>
                    some x34
                else
                  (portolanref04_has a0.Op 77).bind fun x32 =>
                  if x32 then
                    if ((List.length a0.Args : Int) == 0) then
                      some true
                    else
                      (portolanref04_has a0.Op 76).bind fun x33 =>
                      some x33
                  else
                    some false
              else
                (portolanref04_has a0.Op 110).bind fun x28 =>
                if x28 then
                  if (a0.M == 0) then
                    if ((List.length a0.Args : Int) == 0) then
                      some true
                    else
                      (portolanref04_has a0.Op 76).bind fun x31 =>
                      some x31
                  else
                    (portolanref04_has a0.Op 77).bind fun x29 =>
                    if x29 then
                      if ((List.length a0.Args : Int) == 0) then
                        some true
                      else
                        (portolanref04_has a0.Op 76).bind fun x30 =>
                        some x30
                    else
                      some false
                else
                  some false
          else
            some false
      else
        (portolanref04_has a0.Op 65).bind fun x2 =>
        if x2 then
          if (a0.B == 0) then
            if (a0.N == 0) then
              if (a0.M == 0) then
                if ((List.length a0.Args : Int) == 0) then
                  some true
                else
                  (portolanref04_has a0.Op 76).bind fun x25 =>
                  some x25
              else
                (portolanref04_has a0.Op 77).bind fun x23 =>
                if x23 then
                  if ((List.length a0.Args : Int) == 0) then
                    some true
                  else
                    (portolanref04_has a0.Op 76).bind fun x24 =>
                    some x24
                else
                  some false
            else
              (portolanref04_has a0.Op 78).bind fun x15 =>
              if x15 then
                if (a0.M == 0) then
                  if ((List.length a0.Args : Int) == 0) then
                    some true
                  else
                    (portolanref04_has a0.Op 76).bind fun x22 =>
                    some x22
                else
                  (portolanref04_has a0.Op 77).bind fun x20 =>
                  if x20 then
                    if ((List.length a0.Args : Int) == 0) then
                      some true
                    else
                      (portolanref04_has a0.Op 76).bind fun x21 =>
                      some x21
                  else
                    some false
              else
                (portolanref04_has a0.Op 110).bind fun x16 =>
                if x16 then
                  if (a0.M == 0) then
                    if ((List.length a0.Args : Int) == 0) then
                      some true
                    else
                      (portolanref04_has a0.Op 76).bind fun x19 =>
                      some x19
                  else
                    (portolanref04_has a0.Op 77).bind fun x17 =>
                    if x17 then
                      if ((List.length a0.Args : Int) == 0) then
                        some true
                      else
                        (portolanref04_has a0.Op 76).bind fun x18 =>
                        some x18
                    else
                      some false
                else
                  some false
          else
            (portolanref04_has a0.Op 66).bind fun x3 =>
            if x3 then
              if (a0.N == 0) then
                if (a0.M == 0) then
                  if ((List.length a0.Args : Int) == 0) then
                    some true
                  else
                    (portolanref04_has a0.Op 76).bind fun x14 =>
                    some x14
                else
                  (portolanref04_has a0.Op 77).bind fun x12 =>
                  if x12 then
                    if ((List.length a0.Args : Int) == 0) then
                      some true
                    else
                      (portolanref04_has a0.Op 76).bind fun x13 =>
                      some x13
                  else
                    some false
              else
                (portolanref04_has a0.Op 78).bind fun x4 =>
                if x4 then
                  if (a0.M == 0) then
                    if ((List.length a0.Args : Int) == 0) then
                      some true
                    else
                      (portolanref04_has a0.Op 76).bind fun x11 =>
                      some x11
                  else
                    (portolanref04_has a0.Op 77).bind fun x9 =>
                    if x9 then
                      if ((List.length a0.Args : Int) == 0) then
                        some true
                      else
                        (portolanref04_has a0.Op 76).bind fun x10 =>
                        some x10
                    else
                      some false
                else
                  (portolanref04_has a0.Op 110).bind fun x5 =>
                  if x5 then
                    if (a0.M == 0) then
                      if ((List.length a0.Args : Int) == 0) then
                        some true
                      else
                        (portolanref04_has a0.Op 76).bind fun x8 =>
                        some x8
                    else
                      (portolanref04_has a0.Op 77).bind fun x6 =>
                      if x6 then
                        if ((List.length a0.Args : Int) == 0) then
                          some true
                        else
                          (portolanref04_has a0.Op 76).bind fun x7 =>
                          some x7
                      else
                        some false
                  else
                    some false
            else
              some false
        else
          some false
    else
      some false
end Go.Pf
end
section
namespace Go.Pf
open Go.Pp
def portolanref04_Uses.j2 (a0 : Ins) (x2 : List Int) : Option (List Int) :=
  (portolanref04_has a0.Op 76).bind fun x3 =>
  if x3 then
    (appL 8 x2 a0.Args).bind fun x4 =>
    some x4
  else
    some x2
def portolanref04_Uses.j1 (a0 : Ins) (x1 : List Int) : Option (List Int) :=
  (portolanref04_has a0.Op 66).bind fun x5 =>
  if x5 then
    (appL 8 x1 [a0.B]).bind fun x6 =>
    portolanref04_Uses.j2 a0 x6
  else
    portolanref04_Uses.j2 a0 x1
def portolanref04_Uses (a0 : Ins) : Option (List Int) :=
  (portolanref04_has a0.Op 65).bind fun x7 =>
  if x7 then
    portolanref04_Uses.j1 a0 [a0.A]
  else
    portolanref04_Uses.j1 a0 []
end Go.Pf
end
section
namespace Go.Pf
open Go.Pp
def portolanref04_Next (a0 : Ins) : Option (List Int) :=
  if (a0.Op == 21) then
    some [a0.N]
  else
    if (a0.Op == 22) then
      if (a0.N == a0.M) then
        some [a0.N]
      else
        some [(if a0.M < a0.N then a0.M else a0.N), (if a0.M > a0.N then a0.M else a0.N)]
    else
      some []
end Go.Pf
end
section
namespace Go.Pf
open Go.Pp
def portolanref04_Ins.j3 (a2 : Ins) (x14 : Bool) : Option (Bool) :=
  if x14 then
    (portolanref04_within a2.N 0 7).bind fun x15 =>
    some x15
  else
    some true
def portolanref04_Ins.k2 (a0 : Prog) (a2 : Ins) : Option (Bool) :=
  if (a2.Op == 19) then
    (portolanref04_within a2.N 0 (w64 ((List.length a0.Funcs : Int) - 1))).bind fun x20 =>
    if x20 then
      (ixL a0.Funcs a2.N).bind fun x21 =>
      some ((List.length a2.Args : Int) == x21.Params)
    else
      some false
  else
    if (a2.Op == 1) then
      (portolanref04_within a2.N (-2147483648) 2147483648).bind fun x19 =>
      some x19
    else
      if (a2.Op == 16) then
        (portolanref04_within a2.N (-8) 8).bind fun x18 =>
        some x18
      else
        if (a2.Op == 10) then
          (portolanref04_within a2.N 0 8).bind fun x16 =>
          if x16 then
            (portolanref04_within a2.M 0 8).bind fun x17 =>
            some x17
          else
            some false
        else
          if (a2.Op == 11) then
            portolanref04_Ins.j3 a2 true
          else
            if (a2.Op == 12) then
              portolanref04_Ins.j3 a2 true
            else
              if (a2.Op == 13) then
                portolanref04_Ins.j3 a2 true
              else
                if (a2.Op == 14) then
                  portolanref04_Ins.j3 a2 true
                else
                  portolanref04_Ins.j3 a2 (a2.Op == 15)
def portolanref04_Ins.b2 (x3 : Func) (x8 : List Int) : Nat → Unit → Option (LR (Unit) (Bool))
  | i2, _ =>
    (ixL x8 (i2 : Int)).bind fun x22 =>
    (portolanref04_within x22 1 (w64 ((List.length x3.Blocks : Int) - 1))).bind fun x23 =>
    if x23 then
      some (.next ())
    else
      some (.ret false)
def portolanref04_Ins.k1 (a0 : Prog) (a2 : Ins) (x3 : Func) : Option (Bool) :=
  (portolanref04_Next a2).bind fun x8 =>
  aft (forN (List.length x8 : Int) (portolanref04_Ins.b2 x3 x8) ()) (fun s => portolanref04_Ins.k2 a0 a2) (fun r => some r)
def portolanref04_Ins.b1 (x3 : Func) (x6 : List Int) : Nat → Unit → Option (LR (Unit) (Bool))
  | i1, _ =>
    (ixL x6 (i1 : Int)).bind fun x24 =>
    (portolanref04_within x24 0 (w64 ((List.length x3.Kinds : Int) - 1))).bind fun x25 =>
    if x25 then
      some (.next ())
    else
      some (.ret false)
def portolanref04_Ins.j2 (a0 : Prog) (a2 : Ins) (x3 : Func) (x6 : List Int) : Option (Bool) :=
  aft (forN (List.length x6 : Int) (portolanref04_Ins.b1 x3 x6) ()) (fun s => portolanref04_Ins.k1 a0 a2 x3) (fun r => some r)
def portolanref04_Ins.j1 (a0 : Prog) (a1 : Int) (a2 : Ins) (x2 : Bool) : Option (Bool) :=
  if x2 then
    some false
  else
    (ixL a0.Funcs a1).bind fun x3 =>
    (portolanref04_Uses a2).bind fun x4 =>
    (portolanref04_Sets a2).bind fun x5 =>
    if x5.2 then
      (appL 8 x4 [x5.1]).bind fun x26 =>
      portolanref04_Ins.j2 a0 a2 x3 x26
    else
      portolanref04_Ins.j2 a0 a2 x3 x4
def portolanref04_Ins (a0 : Prog) (a1 : Int) (a2 : Ins) : Option (Bool) :=
  (portolanref04_within a1 0 (w64 ((List.length a0.Funcs : Int) - 1))).bind fun x27 =>
  if x27 then
    (portolanref03_Parts a2.Op).bind fun x28 =>
    if (ByteArray.toList x28 == ByteArray.toList ({ data := #[] } : ByteArray)) then
      portolanref04_Ins.j1 a0 a1 a2 true
    else
      (portolanref04_bare a2).bind fun x29 =>
      portolanref04_Ins.j1 a0 a1 a2 (!x29)
  else
    portolanref04_Ins.j1 a0 a1 a2 true
end Go.Pf
end
section
namespace Go.Pf
open Go.Pp
def portolanref04_Last (a0 : Int) : Option (Bool) :=
  if (a0 == 21) then
    some true
  else
    if (a0 == 22) then
      some true
    else
      some (a0 == 23)
end Go.Pf
end
section
namespace Go.Pf
open Go.Pp
def portolanref04_Func.k2  : Option (Bool) :=
  some true
def portolanref04_Func.k3  : Option (LR (Unit) (Bool)) :=
  some (.next ())
def portolanref04_Func.b3 (x5 : Block) : Nat → Unit → Option (LR (Unit) (Bool))
  | i3, _ =>
    (ixL x5.Code (i3 : Int)).bind fun x8 =>
    (portolanref04_Last x8.Op).bind fun x9 =>
    if x9 == ((i3 : Int) == w64 ((List.length x5.Code : Int) - 1)) then
      some (.next ())
    else
      some (.ret false)
def portolanref04_Func.b2 (a0 : Func) : Nat → Unit → Option (LR (Unit) (Bool))
  | i2, _ =>
    (ixL a0.Blocks (i2 : Int)).bind fun x5 =>
    (portolanref04_within (List.length x5.Code : Int) 1 40).bind fun x6 =>
    if x6 then
      aft (forN (List.length x5.Code : Int) (portolanref04_Func.b3 x5) ()) (fun s => portolanref04_Func.k3) (fun r => some (.ret r))
    else
      some (.ret false)
def portolanref04_Func.k1 (a0 : Func) : Option (Bool) :=
  aft (forN (List.length a0.Blocks : Int) (portolanref04_Func.b2 a0) ()) (fun s => portolanref04_Func.k2) (fun r => some r)
def portolanref04_Func.j2 (a0 : Func) (i1 : Nat) : Option (LR (Unit) (Bool)) :=
  (ixL a0.Kinds (i1 : Int)).bind fun x10 =>
  if (x10 != 2) then
    (ixL a0.Base (i1 : Int)).bind fun x14 =>
    if (x14 != (-1)) then
      some (.ret false)
    else
      some (.next ())
  else
    (ixL a0.Base (i1 : Int)).bind fun x11 =>
    (portolanref04_within x11 0 (w64 ((List.length a0.Kinds : Int) - 1))).bind fun x12 =>
    if x12 then
      (ixL a0.Kinds x11).bind fun x13 =>
      if (x13 != 1) then
        some (.ret false)
      else
        some (.next ())
    else
      some (.ret false)
def portolanref04_Func.b1 (a0 : Func) : Nat → Unit → Option (LR (Unit) (Bool))
  | i1, _ =>
    (ixL a0.Kinds (i1 : Int)).bind fun x15 =>
    (portolanref04_within x15 0 2).bind fun x16 =>
    if x16 then
      if decide ((i1 : Int) < a0.Params) then
        if (x15 == 2) then
          some (.ret false)
        else
          portolanref04_Func.j2 a0 i1
      else
        portolanref04_Func.j2 a0 i1
    else
      some (.ret false)
def portolanref04_Func.j1 (a0 : Func) (x2 : Bool) : Option (Bool) :=
  if x2 then
    some false
  else
    aft (forN (List.length a0.Kinds : Int) (portolanref04_Func.b1 a0) ()) (fun s => portolanref04_Func.k1 a0) (fun r => some r)
def portolanref04_Func (a0 : Func) : Option (Bool) :=
  if decide (48 < (List.length a0.Kinds : Int)) then
    portolanref04_Func.j1 a0 true
  else
    if ((List.length a0.Base : Int) != (List.length a0.Kinds : Int)) then
      portolanref04_Func.j1 a0 true
    else
      (portolanref04_within a0.Params 0 (if (List.length a0.Kinds : Int) < 4 then (List.length a0.Kinds : Int) else 4)).bind fun x17 =>
      if x17 then
        (portolanref04_within a0.Result 0 1).bind fun x18 =>
        if x18 then
          (portolanref04_within (List.length a0.Blocks : Int) 1 40).bind fun x19 =>
          portolanref04_Func.j1 a0 (!x19)
        else
          portolanref04_Func.j1 a0 true
      else
        portolanref04_Func.j1 a0 true
end Go.Pf
end
section
namespace Go.Pf
open Go.Pp
def portolanref04_Check.k1  : Option (Int) :=
  some 0
def portolanref04_Check.k2  : Option (LR (Unit) (Int)) :=
  some (.next ())
def portolanref04_Check.k3  : Option (LR (Unit) (Int)) :=
  some (.next ())
def portolanref04_Check.b3 (a0 : Prog) (x4 : Func) (i1 : Nat) (i2 : Nat) : Int → Option (LR (Int) (Int))
  | x7 =>
    (ixL x4.Blocks (i2 : Int)).bind fun x8 =>
    if decide (x7 < (List.length x8.Code : Int)) then
      (ixL x8.Code x7).bind fun x9 =>
      (portolanref04_Ins a0 (i1 : Int) x9).bind fun x10 =>
      if x10 then
        some (.next (w64 (x7 + 1)))
      else
        some (.ret 5)
    else
      some (.brk x7)
def portolanref04_Check.b2 (a0 : Prog) (x4 : Func) (i1 : Nat) : Nat → Unit → Option (LR (Unit) (Int))
  | i2, _ =>
    aft (whileF (portolanref04_Check.b3 a0 x4 i1 i2) 18446744073709551616 0) (fun s => portolanref04_Check.k3) (fun r => some (.ret r))
def portolanref04_Check.b1 (a0 : Prog) : Nat → Unit → Option (LR (Unit) (Int))
  | i1, _ =>
    (ixL a0.Funcs (i1 : Int)).bind fun x4 =>
    (portolanref04_Func x4).bind fun x5 =>
    if x5 then
      aft (forN (List.length x4.Blocks : Int) (portolanref04_Check.b2 a0 x4 i1) ()) (fun s => portolanref04_Check.k2) (fun r => some (.ret r))
    else
      some (.ret 5)
def portolanref04_Check.j1 (a0 : Prog) (x2 : Bool) : Option (Int) :=
  if x2 then
    some 5
  else
    aft (forN (List.length a0.Funcs : Int) (portolanref04_Check.b1 a0) ()) (fun s => portolanref04_Check.k1) (fun r => some r)
def portolanref04_Check (a0 : Prog) : Option (Int) :=
  (portolanref04_within (List.length a0.Funcs : Int) 1 8).bind fun x11 =>
  if x11 then
    (ixL a0.Funcs 0).bind fun x12 =>
    if (x12.Params != 0) then
      portolanref04_Check.j1 a0 true
    else
      portolanref04_Check.j1 a0 (x12.Result != 0)
  else
    portolanref04_Check.j1 a0 true
end Go.Pf
end
section
namespace Go.Pf
open Go.Pp
def portolanref08_signs.j4 (a0 : Int) (x10 : Bool) : Option (ByteArray) :=
  if x10 then
    some ({ data := #[45, 105, 45] } : ByteArray)
  else
    if (a0 == 12) then
      some ({ data := #[45, 114, 105] } : ByteArray)
    else
      if (a0 == 13) then
        some ({ data := #[114, 114, 45] } : ByteArray)
      else
        if (a0 == 14) then
          some ({ data := #[45, 114, 114] } : ByteArray)
        else
          if (a0 == 15) then
            some ({ data := #[100, 114, 45] } : ByteArray)
          else
            if (a0 == 16) then
              some ({ data := #[100, 100, 45] } : ByteArray)
            else
              if (a0 == 17) then
                some ({ data := #[105, 100, 45] } : ByteArray)
              else
                if (a0 == 18) then
                  some ({ data := #[45, 100, 105] } : ByteArray)
                else
                  some ({ data := #[45, 45, 45] } : ByteArray)
def portolanref08_signs.j3 (a0 : Int) (x8 : Bool) : Option (ByteArray) :=
  if x8 then
    some ({ data := #[105, 114, 45] } : ByteArray)
  else
    if (a0 == 9) then
      some ({ data := #[105, 114, 114] } : ByteArray)
    else
      if (a0 == 20) then
        portolanref08_signs.j4 a0 true
      else
        portolanref08_signs.j4 a0 (a0 == 22)
def portolanref08_signs.j2 (a0 : Int) (x6 : Bool) : Option (ByteArray) :=
  if x6 then
    some ({ data := #[114, 45, 45] } : ByteArray)
  else
    if (a0 == 8) then
      portolanref08_signs.j3 a0 true
    else
      portolanref08_signs.j3 a0 (a0 == 11)
def portolanref08_signs.j1 (a0 : Int) (x4 : Bool) : Option (ByteArray) :=
  if x4 then
    some ({ data := #[105, 105, 105] } : ByteArray)
  else
    if (a0 == 7) then
      portolanref08_signs.j2 a0 true
    else
      portolanref08_signs.j2 a0 (a0 == 10)
def portolanref08_signs (a0 : Int) : Option (ByteArray) :=
  if (a0 == 1) then
    some ({ data := #[105, 45, 45] } : ByteArray)
  else
    if (a0 == 3) then
      portolanref08_signs.j1 a0 true
    else
      if (a0 == 4) then
        portolanref08_signs.j1 a0 true
      else
        if (a0 == 5) then
          portolanref08_signs.j1 a0 true
        else
          portolanref08_signs.j1 a0 (a0 == 6)
end Go.Pf
end
section
namespace Go.Pf
open Go.Pp
def portolanref08_map3 (a0 : Int) : Option (Int) :=
  if (a0 == 105) then
    some 0
  else
    if (a0 == 114) then
      some 1
    else
      some 2
end Go.Pf
end
section
namespace Go.Pf
open Go.Pp
def portolanref08_is (a0 : Func) (a1 : Int) (a2 : Int) : Option (Bool) :=
  if (a2 == 45) then
    some true
  else
    if decide (0 ≤ a1) then
      if decide (a1 < (List.length a0.Kinds : Int)) then
        (ixL a0.Kinds a1).bind fun x1 =>
        (portolanref08_map3 a2).bind fun x2 =>
        some (x1 == x2)
      else
        some false
    else
      some false
end Go.Pf
end
section
namespace Go.Pf
open Go.Pp
def portolanref08_Fits.k1 (a2 : Ins) (x3 : Func) (x7 : Func) : Option (Bool) :=
  (ixL x3.Kinds a2.D).bind fun x9 =>
  some (x9 == x7.Result)
def portolanref08_Fits.b1 (a2 : Ins) (x3 : Func) (x7 : Func) : Nat → Unit → Option (LR (Unit) (Bool))
  | i1, _ =>
    (ixL a2.Args (i1 : Int)).bind fun x10 =>
    (ixL x3.Kinds x10).bind fun x11 =>
    (ixL x7.Kinds (i1 : Int)).bind fun x12 =>
    if (x11 != x12) then
      some (.ret false)
    else
      some (.next ())
def portolanref08_Fits.j2 (a0 : Prog) (a2 : Ins) (x3 : Func) (x6 : Bool) : Option (Bool) :=
  if x6 then
    some false
  else
    if (a2.Op == 2) then
      (ixL x3.Kinds a2.D).bind fun x17 =>
      (ixL x3.Kinds a2.A).bind fun x18 =>
      if (x17 == x18) then
        some (x17 != 2)
      else
        some false
    else
      if (a2.Op == 15) then
        (ixL x3.Base a2.D).bind fun x16 =>
        some (x16 == a2.A)
      else
        if (a2.Op == 16) then
          (ixL x3.Base a2.D).bind fun x14 =>
          (ixL x3.Base a2.A).bind fun x15 =>
          some (x14 == x15)
        else
          if (a2.Op == 23) then
            (ixL x3.Kinds a2.A).bind fun x13 =>
            some (x13 == x3.Result)
          else
            if (a2.Op == 19) then
              (ixL a0.Funcs a2.N).bind fun x7 =>
              aft (forN (List.length a2.Args : Int) (portolanref08_Fits.b1 a2 x3 x7) ()) (fun s => portolanref08_Fits.k1 a2 x3 x7) (fun r => some r)
            else
              some true
def portolanref08_Fits.j1 (a0 : Prog) (a1 : Int) (a2 : Ins) (x2 : Bool) : Option (Bool) :=
  if x2 then
    some false
  else
    (ixL a0.Funcs a1).bind fun x3 =>
    (portolanref08_signs a2.Op).bind fun x4 =>
    (ixS x4 0).bind fun x19 =>
    (portolanref08_is x3 a2.D x19).bind fun x20 =>
    if x20 then
      (ixS x4 1).bind fun x21 =>
      (portolanref08_is x3 a2.A x21).bind fun x22 =>
      if x22 then
        (ixS x4 2).bind fun x23 =>
        (portolanref08_is x3 a2.B x23).bind fun x24 =>
        portolanref08_Fits.j2 a0 a2 x3 (!x24)
      else
        portolanref08_Fits.j2 a0 a2 x3 true
    else
      portolanref08_Fits.j2 a0 a2 x3 true
def portolanref08_Fits (a0 : Prog) (a1 : Int) (a2 : Ins) : Option (Bool) :=
  if decide (a1 < 0) then
    portolanref08_Fits.j1 a0 a1 a2 true
  else
    portolanref08_Fits.j1 a0 a1 a2 (decide ((List.length a0.Funcs : Int) ≤ a1))
end Go.Pf
end
section
namespace Go.Pf
open Go.Pp
def portolanlaw08_KindFits.j1 (a0 : Prog) (a1 : Int) (a2 : Ins) (x4 : Bool) : Option (Bool) :=
  if x4 then
    some true
  else
    (kind_Fits a0 a1 a2).bind fun x5 =>
    (portolanref08_Fits a0 a1 a2).bind fun x6 =>
    some (x5 == x6)
def portolanlaw08_KindFits (a0 : Prog) (a1 : Int) (a2 : Ins) : Option (Bool) :=
  (portolanlaw08_alive).bind fun x1 =>
  if x1 then
    (portolanlaw08_great a0).bind fun x7 =>
    if x7 then
      portolanlaw08_KindFits.j1 a0 a1 a2 true
    else
      (portolanref04_Check a0).bind fun x8 =>
      if (x8 != 0) then
        portolanlaw08_KindFits.j1 a0 a1 a2 true
      else
        (portolanref04_Ins a0 a1 a2).bind fun x9 =>
        portolanlaw08_KindFits.j1 a0 a1 a2 (!x9)
  else
    some false
end Go.Pf
end
section
namespace Go.Pf
open Go.Pp
def portolanlaw08_KindOrder.k1 (x3 : Int) (x5 : Bool) : Option (Bool) :=
  if (x3 != 5) then
    some ((x3 == 6) == !x5)
  else
    some false
def portolanlaw08_KindOrder.k2 (x7 : Bool) : Option (LR (Bool) (Bool)) :=
  some (.next x7)
def portolanlaw08_KindOrder.k3 (x8 : Int) (x10 : Bool) : Option (LR (Bool × Int) (Bool)) :=
  some (.next (x10, w64 (x8 + 1)))
def portolanlaw08_KindOrder.b3 (a0 : Prog) (x8 : Int) (i1 : Nat) : (Bool × Int) → Option (LR (Bool × Int) (Bool))
  | (x10, x11) =>
    (ixL a0.Funcs (i1 : Int)).bind fun x12 =>
    (ixL x12.Blocks x8).bind fun x13 =>
    if decide (x11 < (List.length x13.Code : Int)) then
      if x10 then
        (ixL x13.Code x11).bind fun x14 =>
        (kind_Fits a0 (i1 : Int) x14).bind fun x15 =>
        some (.next (x15, w64 (x11 + 1)))
      else
        some (.next (false, w64 (x11 + 1)))
    else
      some (.brk (x10, x11))
def portolanlaw08_KindOrder.b2 (a0 : Prog) (i1 : Nat) : (Bool × Int) → Option (LR (Bool × Int) (Bool))
  | (x7, x8) =>
    (ixL a0.Funcs (i1 : Int)).bind fun x9 =>
    if decide (x8 < (List.length x9.Blocks : Int)) then
      aft (whileF (portolanlaw08_KindOrder.b3 a0 x8 i1) 18446744073709551616 (x7, 0)) (fun s => portolanlaw08_KindOrder.k3 x8 s.1) (fun r => some (.ret r))
    else
      some (.brk (x7, x8))
def portolanlaw08_KindOrder.b1 (a0 : Prog) : Nat → Bool → Option (LR (Bool) (Bool))
  | i1, x5 =>
    aft (whileF (portolanlaw08_KindOrder.b2 a0 i1) 18446744073709551616 (x5, 0)) (fun s => portolanlaw08_KindOrder.k2 s.1) (fun r => some (.ret r))
def portolanlaw08_KindOrder (a0 : Prog) : Option (Bool) :=
  (portolanlaw08_alive).bind fun x1 =>
  if x1 then
    (portolanlaw08_great a0).bind fun x2 =>
    if x2 then
      some true
    else
      (kind_Check a0).bind fun x3 =>
      (portolanref04_Check a0).bind fun x4 =>
      if (x4 != 0) then
        some (x3 == 5)
      else
        aft (forN (List.length a0.Funcs : Int) (portolanlaw08_KindOrder.b1 a0) true) (fun s => portolanlaw08_KindOrder.k1 x3 s) (fun r => some r)
  else
    some false
end Go.Pf
end
section
namespace Go.Pf
open Go.Pp
def kind_Set (a0 : Func) (a1 : Int) : Option (List Int) :=
  (kind_states a0).bind fun x1 =>
  (some (Option.getD (getMp x1 a1) (kind_state.mk [] []))).bind fun x2 =>
  some x2.set
end Go.Pf
end
section
namespace Go.Pf
open Go.Pp
def kind_Fresh (a0 : Func) (a1 : Int) : Option (List Int) :=
  (kind_states a0).bind fun x1 =>
  (some (Option.getD (getMp x1 a1) (kind_state.mk [] []))).bind fun x2 =>
  some x2.fresh
end Go.Pf
end
section
namespace Go.Pf
open Go.Pp
def portolanref02_Has (a0 : List Int) (a1 : Int) : Option (Bool) :=
  if decide (0 ≤ a1) then
    if decide (w64 (Int.tdiv a1 64) < (List.length a0 : Int)) then
      (ixL a0 (w64 (Int.tdiv a1 64))).bind fun x1 =>
      (chkB (decide (¬ (u64 (Int.tmod a1 64)) < 0)) ()).bind fun x2 =>
      some (u64 (andW 64 (shrE x1 (u64 (Int.tmod a1 64)) 64) 1) == 1)
    else
      some false
  else
    some false
end Go.Pf
end
section
namespace Go.Pf
open Go.Pp
def portolanref05_Next.j1 (a0 : Func) (a1 : Int) (x3 : Bool) : Option (List Int) :=
  if x3 then
    some []
  else
    (ixL a0.Blocks a1).bind fun x4 =>
    (ixL x4.Code (w64 ((List.length x4.Code : Int) - 1))).bind fun x5 =>
    (portolanref04_Next x5).bind fun x6 =>
    some x6
def portolanref05_Next (a0 : Func) (a1 : Int) : Option (List Int) :=
  if decide (a1 < 0) then
    portolanref05_Next.j1 a0 a1 true
  else
    if decide ((List.length a0.Blocks : Int) ≤ a1) then
      portolanref05_Next.j1 a0 a1 true
    else
      (ixL a0.Blocks a1).bind fun x7 =>
      portolanref05_Next.j1 a0 a1 ((List.length x7.Code : Int) == 0)
end Go.Pf
end
section
namespace Go.Pf
open Go.Pp
def portolanlaw08_KindWays.k1  : Option (Bool) :=
  some true
def portolanlaw08_KindWays.k3  : Option (LR (Unit) (Bool)) :=
  some (.next ())
def portolanlaw08_KindWays.j2 (a1 : List Int) (x10 : List Bool) (x11 : List Bool) (x12 : Int) (x13 : Int) (x18 : List Bool) (x19 : List Bool) (x21 : List Int) (x23 : Bool) : Option (LR (List Bool × List Bool × Int × Int) (Bool)) :=
  if x23 then
    some (.brk (x10, x11, x12, x13))
  else
    (ixL a1 x13).bind fun x24 =>
    (chkB (decide (¬ (List.length x21 : Int) = 0)) ()).bind fun x25 =>
    (ixL x21 (Int.tmod (w64 x24) (List.length x21 : Int))).bind fun x26 =>
    some (.next (x18, x19, x26, w64 (x13 + 1)))
def portolanlaw08_KindWays.k5 (a1 : List Int) (x6 : Func) (x10 : List Bool) (x11 : List Bool) (x12 : Int) (x13 : Int) (x18 : List Bool) (x19 : List Bool) : Option (LR (List Bool × List Bool × Int × Int) (Bool)) :=
  (portolanref05_Next x6 x12).bind fun x21 =>
  if ((List.length x21 : Int) == 0) then
    portolanlaw08_KindWays.j2 a1 x10 x11 x12 x13 x18 x19 x21 true
  else
    portolanlaw08_KindWays.j2 a1 x10 x11 x12 x13 x18 x19 x21 (x13 == (List.length a1 : Int))
def portolanlaw08_KindWays.k6 (x18 : List Bool) (x28 : Int × Bool) (x31 : Bool) (x32 : List Bool) : Option (LR (List Bool × List Bool) (Bool)) :=
  (ixL x18 x28.1).bind fun x34 =>
  (updL x18 x28.1 true).bind fun x35 =>
  (ixL x32 x28.1).bind fun x36 =>
  (updL x32 x28.1 x31).bind fun x37 =>
  some (.next (x35, x37))
def portolanlaw08_KindWays.j4 (x32 : List Bool) (x39 : Bool) (i6 : Nat) : Option (LR (List Bool) (Bool)) :=
  if x39 then
    (ixL x32 (i6 : Int)).bind fun x40 =>
    (updL x32 (i6 : Int) false).bind fun x41 =>
    some (.next x41)
  else
    some (.next x32)
def portolanlaw08_KindWays.b6 (x6 : Func) (x28 : Int × Bool) : Nat → (List Bool) → Option (LR ((List Bool)) (Bool))
  | i6, x32 =>
    (ixL x6.Kinds (i6 : Int)).bind fun x42 =>
    if (x42 == 2) then
      (ixL x6.Base (i6 : Int)).bind fun x43 =>
      portolanlaw08_KindWays.j4 x32 (x43 == x28.1) i6
    else
      portolanlaw08_KindWays.j4 x32 false i6
def portolanlaw08_KindWays.j3 (x6 : Func) (x18 : List Bool) (x19 : List Bool) (x28 : Int × Bool) (x31 : Bool) : Option (LR (List Bool × List Bool) (Bool)) :=
  aft (forN (List.length x6.Kinds : Int) (portolanlaw08_KindWays.b6 x6 x28) x19) (fun s => portolanlaw08_KindWays.k6 x18 x28 x31 s) (fun r => some (.ret r))
def portolanlaw08_KindWays.b5 (x6 : Func) (x17 : Block) : Nat → ((List Bool) × (List Bool)) → Option (LR ((List Bool) × (List Bool)) (Bool))
  | i5, (x18, x19) =>
    (ixL x17.Code (i5 : Int)).bind fun x27 =>
    (portolanref04_Sets x27).bind fun x28 =>
    if x28.2 then
      (ixL x6.Kinds x28.1).bind fun x44 =>
      if (x44 == 2) then
        if (x27.Op != 16) then
          portolanlaw08_KindWays.j3 x6 x18 x19 x28 true
        else
          (ixL x19 x27.A).bind fun x45 =>
          portolanlaw08_KindWays.j3 x6 x18 x19 x28 x45
      else
        portolanlaw08_KindWays.j3 x6 x18 x19 x28 false
    else
      some (.next (x18, x19))
def portolanlaw08_KindWays.k4 (a1 : List Int) (x6 : Func) (x10 : List Bool) (x11 : List Bool) (x12 : Int) (x13 : Int) : Option (LR (List Bool × List Bool × Int × Int) (Bool)) :=
  (ixL x6.Blocks x12).bind fun x17 =>
  aft (forN (List.length x17.Code : Int) (portolanlaw08_KindWays.b5 x6 x17) (x10, x11)) (fun s => portolanlaw08_KindWays.k5 a1 x6 x10 x11 x12 x13 s.1 s.2) (fun r => some (.ret r))
def portolanlaw08_KindWays.b4 (x6 : Func) (x10 : List Bool) (x11 : List Bool) (x14 : List Int) (x15 : List Int) : Nat → Unit → Option (LR (Unit) (Bool))
  | i4, _ =>
    (portolanref02_Has x14 (i4 : Int)).bind fun x46 =>
    if x46 then
      (ixL x10 (i4 : Int)).bind fun x50 =>
      if x50 then
        (portolanref02_Has x15 (i4 : Int)).bind fun x51 =>
        if x51 then
          (ixL x6.Kinds (i4 : Int)).bind fun x52 =>
          if (x52 == 2) then
            (ixL x11 (i4 : Int)).bind fun x53 =>
            if x53 then
              some (.next ())
            else
              some (.ret false)
          else
            some (.next ())
        else
          some (.next ())
      else
        some (.ret false)
    else
      (portolanref02_Has x15 (i4 : Int)).bind fun x47 =>
      if x47 then
        (ixL x6.Kinds (i4 : Int)).bind fun x48 =>
        if (x48 == 2) then
          (ixL x11 (i4 : Int)).bind fun x49 =>
          if x49 then
            some (.next ())
          else
            some (.ret false)
        else
          some (.next ())
      else
        some (.next ())
def portolanlaw08_KindWays.b3 (a1 : List Int) (x6 : Func) : ((List Bool) × (List Bool) × Int × Int) → Option (LR ((List Bool) × (List Bool) × Int × Int) (Bool))
  | (x10, x11, x12, x13) =>
    if decide (x13 ≤ (List.length a1 : Int)) then
      (kind_Set x6 x12).bind fun x14 =>
      (kind_Fresh x6 x12).bind fun x15 =>
      aft (forN (List.length x6.Kinds : Int) (portolanlaw08_KindWays.b4 x6 x10 x11 x14 x15) ()) (fun s => portolanlaw08_KindWays.k4 a1 x6 x10 x11 x12 x13) (fun r => some (.ret r))
    else
      some (.brk (x10, x11, x12, x13))
def portolanlaw08_KindWays.k2 (a1 : List Int) (x6 : Func) (x7 : List Bool) (x8 : List Bool) : Option (LR (Unit) (Bool)) :=
  aft (whileF (portolanlaw08_KindWays.b3 a1 x6) 18446744073709551616 (x8, x7, 0, 0)) (fun s => portolanlaw08_KindWays.k3) (fun r => some (.ret r))
def portolanlaw08_KindWays.b2  : Nat → (List Bool) → Option (LR ((List Bool)) (Bool))
  | i2, x8 =>
    (ixL x8 (i2 : Int)).bind fun x54 =>
    (updL x8 (i2 : Int) true).bind fun x55 =>
    some (.next x55)
def portolanlaw08_KindWays.b1 (a0 : Prog) (a1 : List Int) : Nat → Unit → Option (LR (Unit) (Bool))
  | i1, _ =>
    (ixL a0.Funcs (i1 : Int)).bind fun x6 =>
    (mkL 1 false (List.length x6.Kinds : Int) (List.length x6.Kinds : Int)).bind fun x7 =>
    aft (forN x6.Params portolanlaw08_KindWays.b2 x7) (fun s => portolanlaw08_KindWays.k2 a1 x6 x7 s) (fun r => some (.ret r))
def portolanlaw08_KindWays.j1 (a0 : Prog) (a1 : List Int) (x4 : Bool) : Option (Bool) :=
  if x4 then
    some true
  else
    aft (forN (List.length a0.Funcs : Int) (portolanlaw08_KindWays.b1 a0 a1) ()) (fun s => portolanlaw08_KindWays.k1) (fun r => some r)
def portolanlaw08_KindWays (a0 : Prog) (a1 : List Int) : Option (Bool) :=
  (portolanlaw08_alive).bind fun x1 =>
  if x1 then
    (portolanlaw08_great a0).bind fun x56 =>
    if x56 then
      portolanlaw08_KindWays.j1 a0 a1 true
    else
      (portolanref04_Check a0).bind fun x57 =>
      if (x57 != 0) then
        portolanlaw08_KindWays.j1 a0 a1 true
      else
        portolanlaw08_KindWays.j1 a0 a1 (decide (60 < (List.length a1 : Int)))
  else
    some false
end Go.Pf
end
