/- What the functions come to, in plain Lean, part 1 -/
import Derived.Test.YtkjhkbolchkkhaaDoorS2
set_option linter.all false
section
namespace Go.Pf
open Go.Pp
structure Loc where
  Kind : Int
  N : Int
  deriving DecidableEq, Inhabited
structure Mins where
  Op : Int
  D : Loc
  A : Loc
  B : Loc
  C : Loc
  N : Int
  M : Int
  Args : List Loc
  deriving DecidableEq, Inhabited
structure Text where
  Code : List Mins
  Starts : List Int
  Slots : List Int
  deriving DecidableEq, Inhabited
structure text_room where
  from_ : Int
  to_ : Int
  slots : Int
  funcs : Int
  deriving DecidableEq, Inhabited
structure text_reader where
  b : List Int
  err : Int
  deriving DecidableEq, Inhabited
structure portolanref19_reader where
  b : List Int
  err : Int
  deriving DecidableEq, Inhabited
end Go.Pf
end
section
namespace Go.Pf
open Go.Pp
def code_Parts (a0 : Int) : Option (ByteArray) :=
  if decide (a0 < 0) then
    some ({ data := #[] } : ByteArray)
  else
    if decide (24 ≤ a0) then
      some ({ data := #[] } : ByteArray)
    else
      (ixL partsL a0).bind fun x1 =>
      some x1
end Go.Pf
end
section
namespace Go.Pf
open Go.Pp
def text_Parts (a0 : Int) : Option (ByteArray × Bool) :=
  if (a0 == 25) then
    some (({ data := #[68, 65] } : ByteArray), true)
  else
    if (a0 == 24) then
      some (({ data := #[] } : ByteArray), true)
    else
      if (a0 == 17) then
        some (({ data := #[68, 65, 67] } : ByteArray), true)
      else
        if (a0 == 18) then
          some (({ data := #[65, 66, 67] } : ByteArray), true)
        else
          (code_Parts a0).bind fun x1 =>
          some (x1, !(ByteArray.toList x1 == ByteArray.toList ({ data := #[] } : ByteArray)))
end Go.Pf
end
section
namespace Go.Pf
open Go.Pp
def slices_Clone_int (a0 : List Int) : Option (List Int) := appL 8 [] a0
end Go.Pf
end
section
namespace Go.Pf
open Go.Pp
def text_ends (a0 : Text) : Option (List Int) :=
  (tailL a0.Starts 1).bind fun x1 =>
  (slices_Clone_int x1).bind fun x2 =>
  (appL 8 x2 [(List.length a0.Code : Int)]).bind fun x3 =>
  some x3
end Go.Pf
end
section
namespace Go.Pf
open Go.Pp
def text_within (a0 : Int) (a1 : Int) (a2 : Int) : Option (Bool) :=
  if decide (a1 ≤ a0) then
    some (decide (a0 ≤ a2))
  else
    some false
end Go.Pf
end
section
namespace Go.Pf
open Go.Pp
def slices_IndexFunc_Mins.k1  : Option (Int) :=
  some (-1)
def slices_IndexFunc_Mins.b1 (a0 : List Mins) (a1 : Mins → Option (Bool)) : Nat → Unit → Option (LR (Unit) (Int))
  | i1, _ =>
    (ixL a0 (i1 : Int)).bind fun x2 =>
    (a1 x2).bind fun x3 =>
    if x3 then
      some (.ret (i1 : Int))
    else
      some (.next ())
def slices_IndexFunc_Mins (a0 : List Mins) (a1 : Mins → Option (Bool)) : Option (Int) :=
  aft (forN (List.length a0 : Int) (slices_IndexFunc_Mins.b1 a0 a1) ()) (fun s => slices_IndexFunc_Mins.k1) (fun r => some r)
end Go.Pf
end
section
namespace Go.Pf
open Go.Pp
def slices_ContainsFunc_Mins (a0 : List Mins) (a1 : Mins → Option (Bool)) : Option (Bool) :=
  (slices_IndexFunc_Mins a0 a1).bind fun x1 =>
  some (decide (0 ≤ x1))
end Go.Pf
end
section
namespace Go.Pf
open Go.Pp
def text_loc (a0 : Mins) (a1 : Int) : Option (Nat) :=
  if (a1 == 68) then
    some 1
  else
    if (a1 == 65) then
      some 3
    else
      if (a1 == 66) then
        some 5
      else
        some 7
end Go.Pf
end
section
namespace Go.Pf
open Go.Pp
def slices_IndexFunc_Loc.k1  : Option (Int) :=
  some (-1)
def slices_IndexFunc_Loc.b1 (a0 : List Loc) (a1 : Loc → Option (Bool)) : Nat → Unit → Option (LR (Unit) (Int))
  | i1, _ =>
    (ixL a0 (i1 : Int)).bind fun x2 =>
    (a1 x2).bind fun x3 =>
    if x3 then
      some (.ret (i1 : Int))
    else
      some (.next ())
def slices_IndexFunc_Loc (a0 : List Loc) (a1 : Loc → Option (Bool)) : Option (Int) :=
  aft (forN (List.length a0 : Int) (slices_IndexFunc_Loc.b1 a0 a1) ()) (fun s => slices_IndexFunc_Loc.k1) (fun r => some r)
end Go.Pf
end
section
namespace Go.Pf
open Go.Pp
def slices_ContainsFunc_Loc (a0 : List Loc) (a1 : Loc → Option (Bool)) : Option (Bool) :=
  (slices_IndexFunc_Loc a0 a1).bind fun x1 =>
  some (decide (0 ≤ x1))
end Go.Pf
end
section
namespace Go.Pf
open Go.Pp
def text_room_in (a0 : text_room) (a1 : Loc) : Option (Bool) :=
  if (a1.Kind == 1) then
    (text_within a1.N 0 31).bind fun x2 =>
    some x2
  else
    if (a1.Kind == 2) then
      (text_within a1.N 0 (w64 (a0.slots - 1))).bind fun x1 =>
      some x1
    else
      some false
end Go.Pf
end
section
namespace Go.Pf
open Go.Pp
def text_room_may_1 (a0 : Loc) (a1 : text_room) : Option (Bool) :=
  (text_room_in a1 a0).bind fun x1 =>
  some (!x1)
end Go.Pf
end
section
namespace Go.Pf
open Go.Pp
def stringslite_IndexByte (a0 : ByteArray) (a1 : Int) : Option (Int) := some (ixB a0 a1)
end Go.Pf
end
section
namespace Go.Pf
open Go.Pp
def strings_IndexByte (a0 : ByteArray) (a1 : Int) : Option (Int) :=
  (stringslite_IndexByte a0 a1).bind fun x1 =>
  some x1
end Go.Pf
end
section
namespace Go.Pf
open Go.Pp
def text_hasAny.k1  : Option (Bool) :=
  some false
def text_hasAny.k2 (a0 : ByteArray) (x1 : Nat) : Option (LR (Nat) (Bool)) :=
  some (.next (nxP a0 x1))
def text_hasAny.b2 (a0 : ByteArray) (a1 : ByteArray) (x1 : Nat) : Nat → Option (LR (Nat) (Bool))
  | x2 =>
    if decide (x2 < a1.size) then
      if ((decI a0 x1) == (decI a1 x2)) then
        some (.ret true)
      else
        some (.next (nxP a1 x2))
    else
      some (.brk x2)
def text_hasAny.b1 (a0 : ByteArray) (a1 : ByteArray) : Nat → Option (LR (Nat) (Bool))
  | x1 =>
    if decide (x1 < a0.size) then
      aft (whileF (text_hasAny.b2 a0 a1 x1) 18446744073709551616 0) (fun s => text_hasAny.k2 a0 x1) (fun r => some (.ret r))
    else
      some (.brk x1)
def text_hasAny (a0 : ByteArray) (a1 : ByteArray) : Option (Bool) :=
  aft (whileF (text_hasAny.b1 a0 a1) 18446744073709551616 0) (fun s => text_hasAny.k1) (fun r => some r)
end Go.Pf
end
section
namespace Go.Pf
open Go.Pp
def text_room_may_2 (a0 : Int) (a1 : ByteArray) (a2 : ByteArray) : Option (Bool) :=
  if (a0 != 0) then
    (text_hasAny a2 a1).bind fun x1 =>
    some (!x1)
  else
    some false
end Go.Pf
end
section
namespace Go.Pf
open Go.Pp
def text_room_numbers.j1 (a1 : Mins) (x5 : Bool) : Option (Bool) :=
  if x5 then
    (text_within a1.N 0 7).bind fun x8 =>
    some x8
  else
    if (a1.Op == 16) then
      (text_within a1.N (-8) 8).bind fun x7 =>
      some x7
    else
      if (a1.Op == 1) then
        (text_within a1.N (-2147483648) 2147483648).bind fun x6 =>
        some x6
      else
        some true
def text_room_numbers (a0 : text_room) (a1 : Mins) : Option (Bool) :=
  if (a1.Op == 21) then
    (text_within a1.N a0.from_ (w64 (a0.to_ - 1))).bind fun x14 =>
    some x14
  else
    if (a1.Op == 22) then
      (text_within a1.N a0.from_ (w64 (a0.to_ - 1))).bind fun x12 =>
      if x12 then
        (text_within a1.M a0.from_ (w64 (a0.to_ - 1))).bind fun x13 =>
        some x13
      else
        some false
    else
      if (a1.Op == 19) then
        (text_within a1.N 0 (w64 (a0.funcs - 1))).bind fun x11 =>
        some x11
      else
        if (a1.Op == 10) then
          (text_within a1.N 0 8).bind fun x9 =>
          if x9 then
            (text_within a1.M 0 8).bind fun x10 =>
            some x10
          else
            some false
        else
          if (a1.Op == 15) then
            text_room_numbers.j1 a1 true
          else
            if (a1.Op == 11) then
              text_room_numbers.j1 a1 true
            else
              if (a1.Op == 13) then
                text_room_numbers.j1 a1 true
              else
                if (a1.Op == 12) then
                  text_room_numbers.j1 a1 true
                else
                  text_room_numbers.j1 a1 (a1.Op == 14)
end Go.Pf
end
section
namespace Go.Pf
open Go.Pp
def text_room_may.k1 (a0 : text_room) (a1 : Mins) (x1 : ByteArray × Bool) : Option (Bool) :=
  (text_room_may_2 a1.N ({ data := #[78, 110] } : ByteArray) x1.1).bind fun x5 =>
  if x5 then
    some false
  else
    (text_room_may_2 a1.M ({ data := #[77] } : ByteArray) x1.1).bind fun x6 =>
    if x6 then
      some false
    else
      (text_room_may_2 (List.length a1.Args : Int) ({ data := #[76] } : ByteArray) x1.1).bind fun x7 =>
      if x7 then
        some false
      else
        (text_room_numbers a0 a1).bind fun x8 =>
        some x8
def text_room_may.b1 (a0 : text_room) (a1 : Mins) (x1 : ByteArray × Bool) : Nat → Unit → Option (LR (Unit) (Bool))
  | i1, _ =>
    (ixL [68, 65, 66, 67] (i1 : Int)).bind fun x9 =>
    if (x9 == 68) then
      (strings_IndexByte x1.1 x9).bind fun x16 =>
      if decide (0 ≤ x16) then
        (text_room_in a0 a1.D).bind fun x17 =>
        if x17 then
          some (.next ())
        else
          some (.ret false)
      else
        if decide (a1.D.Kind = 0) && decide (a1.D.N = 0) then
          some (.next ())
        else
          some (.ret false)
    else
      if (x9 == 65) then
        (strings_IndexByte x1.1 x9).bind fun x14 =>
        if decide (0 ≤ x14) then
          (text_room_in a0 a1.A).bind fun x15 =>
          if x15 then
            some (.next ())
          else
            some (.ret false)
        else
          if decide (a1.A.Kind = 0) && decide (a1.A.N = 0) then
            some (.next ())
          else
            some (.ret false)
      else
        if (x9 == 66) then
          (strings_IndexByte x1.1 x9).bind fun x12 =>
          if decide (0 ≤ x12) then
            (text_room_in a0 a1.B).bind fun x13 =>
            if x13 then
              some (.next ())
            else
              some (.ret false)
          else
            if decide (a1.B.Kind = 0) && decide (a1.B.N = 0) then
              some (.next ())
            else
              some (.ret false)
        else
          (strings_IndexByte x1.1 x9).bind fun x10 =>
          if decide (0 ≤ x10) then
            (text_room_in a0 a1.C).bind fun x11 =>
            if x11 then
              some (.next ())
            else
              some (.ret false)
          else
            if decide (a1.C.Kind = 0) && decide (a1.C.N = 0) then
              some (.next ())
            else
              some (.ret false)
def text_room_may.j1 (a0 : text_room) (a1 : Mins) (x1 : ByteArray × Bool) (x3 : Bool) : Option (Bool) :=
  if x3 then
    some false
  else
    aft (forN 4 (text_room_may.b1 a0 a1 x1) ()) (fun s => text_room_may.k1 a0 a1 x1) (fun r => some r)
def text_room_may (a0 : text_room) (a1 : Mins) : Option (Bool) :=
  (text_Parts a1.Op).bind fun x1 =>
  if x1.2 then
    if decide (4 < (List.length a1.Args : Int)) then
      text_room_may.j1 a0 a1 x1 true
    else
      (slices_ContainsFunc_Loc a1.Args (fun y0 => text_room_may_1 y0 a0)).bind fun x18 =>
      text_room_may.j1 a0 a1 x1 x18
  else
    text_room_may.j1 a0 a1 x1 true
end Go.Pf
end
section
namespace Go.Pf
open Go.Pp
def text_Right_1 (a0 : Mins) (a1 : text_room) : Option (Bool) :=
  (text_room_may a1 a0).bind fun x1 =>
  some (!x1)
end Go.Pf
end
section
namespace Go.Pf
open Go.Pp
def text_Right.k1  : Option (Bool) :=
  some true
def text_Right.j2 (a0 : Text) (x5 : Int) (x6 : Int) (x9 : Bool) (i1 : Nat) : Option (LR (Unit) (Bool)) :=
  if x9 then
    some (.ret false)
  else
    (ixL a0.Slots (i1 : Int)).bind fun x10 =>
    (cutL a0.Code x6 x5).bind fun x11 =>
    (slices_ContainsFunc_Mins x11 (fun y0 => text_Right_1 y0 (text_room.mk x6 x5 x10 (List.length a0.Starts : Int)))).bind fun x12 =>
    if x12 then
      some (.ret false)
    else
      (ixL a0.Code (w64 (x5 - 1))).bind fun x13 =>
      (text_within x13.Op 21 23).bind fun x14 =>
      if x14 then
        some (.next ())
      else
        some (.ret false)
def text_Right.b1 (a0 : Text) (x3 : List Int) : Nat → Unit → Option (LR (Unit) (Bool))
  | i1, _ =>
    (ixL x3 (i1 : Int)).bind fun x5 =>
    (ixL a0.Starts (i1 : Int)).bind fun x6 =>
    if decide (x5 ≤ x6) then
      text_Right.j2 a0 x5 x6 true i1
    else
      if decide ((List.length a0.Code : Int) < x5) then
        text_Right.j2 a0 x5 x6 true i1
      else
        (ixL a0.Slots (i1 : Int)).bind fun x15 =>
        (text_within x15 1 160).bind fun x16 =>
        text_Right.j2 a0 x5 x6 (!x16) i1
def text_Right.j1 (a0 : Text) (x2 : Bool) : Option (Bool) :=
  if x2 then
    some false
  else
    (text_ends a0).bind fun x3 =>
    aft (forN (List.length x3 : Int) (text_Right.b1 a0 x3) ()) (fun s => text_Right.k1) (fun r => some r)
def text_Right (a0 : Text) : Option (Bool) :=
  (text_within (List.length a0.Starts : Int) 1 8).bind fun x17 =>
  if x17 then
    if ((List.length a0.Slots : Int) != (List.length a0.Starts : Int)) then
      text_Right.j1 a0 true
    else
      if decide (8000 < (List.length a0.Code : Int)) then
        text_Right.j1 a0 true
      else
        (ixL a0.Starts 0).bind fun x18 =>
        text_Right.j1 a0 (x18 != 0)
  else
    text_Right.j1 a0 true
end Go.Pf
end
section
namespace Go.Pf
open Go.Pp
def slices_Clip_byte (a0 : List Int) : Option (List Int) :=
  some a0
end Go.Pf
end
section
namespace Go.Pf
open Go.Pp
def varint_put.k1 (x2 : List Int) (x3 : Int) : Option (List Int) :=
  (appL 1 x2 [u8 x3]).bind fun x4 =>
  some x4
def varint_put.b1  : ((List Int) × Int) → Option (LR ((List Int) × Int) (List Int))
  | (x2, x3) =>
    if decide (128 ≤ x3) then
      (appL 1 x2 [u8 (orW 8 (u8 x3) 128)]).bind fun x5 =>
      some (.next (x5, shrE x3 7 64))
    else
      some (.brk (x2, x3))
def varint_put (a0 : List Int) (a1 : Int) : Option (List Int) :=
  (slices_Clip_byte a0).bind fun x1 =>
  aft (whileF varint_put.b1 18446744073709551616 (x1, a1)) (fun s => varint_put.k1 s.1 s.2) (fun r => some r)
end Go.Pf
end
section
namespace Go.Pf
open Go.Pp
def slices_Clone_byte (a0 : List Int) : Option (List Int) := appL 1 [] a0
end Go.Pf
end
section
namespace Go.Pf
open Go.Pp
def varint_Put (a0 : List Int) (a1 : Int) : Option (List Int) :=
  if decide (a1 < 0) then
    (slices_Clone_byte a0).bind fun x2 =>
    some x2
  else
    (varint_put a0 (u64 a1)).bind fun x1 =>
    some x1
end Go.Pf
end
section
namespace Go.Pf
open Go.Pp
def varint_List.k1 (x1 : List Int) : Option (List Int) :=
  some x1
def varint_List.b1 (a0 : List Int) : Nat → (List Int) → Option (LR ((List Int)) (List Int))
  | i1, x1 =>
    (ixL a0 (i1 : Int)).bind fun x3 =>
    (varint_Put x1 x3).bind fun x4 =>
    some (.next x4)
def varint_List (a0 : List Int) : Option (List Int) :=
  aft (forN (List.length a0 : Int) (varint_List.b1 a0) []) (fun s => varint_List.k1 s) (fun r => some r)
end Go.Pf
end
section
namespace Go.Pf
open Go.Pp
def varint_PutSigned (a0 : List Int) (a1 : Int) : Option (List Int) :=
  (varint_put a0 (u64 (xorW 64 (u64 (shlE (u64 a1) 1 64)) (u64 (shrE a1 63 64))))).bind fun x1 =>
  some x1
end Go.Pf
end
section
namespace Go.Pf
open Go.Pp
def text_number (a0 : Loc) : Option (Int) :=
  some (w64 ((w64 (2 * a0.N)) + a0.Kind))
end Go.Pf
end
section
namespace Go.Pf
open Go.Pp
def text_Encode.k2 (x6 : List Int) : Option (List Int × Int) :=
  some (x6, 0)
def text_Encode.k3 (x13 : List Int) : Option (LR (List Int) (List Int × Int)) :=
  some (.next x13)
def text_Encode.k4 (x30 : List Int) : Option (LR (List Int) (List Int × Int)) :=
  some (.next x30)
def text_Encode.b4 (x8 : Mins) : Nat → (List Int) → Option (LR ((List Int)) (List Int × Int))
  | i4, x30 =>
    (ixL x8.Args (i4 : Int)).bind fun x32 =>
    (text_number x32).bind fun x33 =>
    (varint_List [x33]).bind fun x34 =>
    (appL 1 x30 x34).bind fun x35 =>
    some (.next x35)
def text_Encode.b3 (x8 : Mins) (x12 : List Int) : Nat → (List Int) → Option (LR ((List Int)) (List Int × Int))
  | i3, x13 =>
    (ixL x12 (i3 : Int)).bind fun x15 =>
    if (x15 == 78) then
      (varint_List [x8.N]).bind fun x39 =>
      (appL 1 x13 x39).bind fun x40 =>
      some (.next x40)
    else
      if (x15 == 77) then
        (varint_List [x8.M]).bind fun x37 =>
        (appL 1 x13 x37).bind fun x38 =>
        some (.next x38)
      else
        if (x15 == 110) then
          (varint_PutSigned x13 x8.N).bind fun x36 =>
          some (.next x36)
        else
          if (x15 == 76) then
            (varint_List [(List.length x8.Args : Int)]).bind fun x28 =>
            (appL 1 x13 x28).bind fun x29 =>
            aft (forN (List.length x8.Args : Int) (text_Encode.b4 x8) x29) (fun s => text_Encode.k4 s) (fun r => some (.ret r))
          else
            if (x15 == 68) then
              (text_number x8.D).bind fun x25 =>
              (varint_List [x25]).bind fun x26 =>
              (appL 1 x13 x26).bind fun x27 =>
              some (.next x27)
            else
              if (x15 == 65) then
                (text_number x8.A).bind fun x22 =>
                (varint_List [x22]).bind fun x23 =>
                (appL 1 x13 x23).bind fun x24 =>
                some (.next x24)
              else
                if (x15 == 66) then
                  (text_number x8.B).bind fun x19 =>
                  (varint_List [x19]).bind fun x20 =>
                  (appL 1 x13 x20).bind fun x21 =>
                  some (.next x21)
                else
                  (text_number x8.C).bind fun x16 =>
                  (varint_List [x16]).bind fun x17 =>
                  (appL 1 x13 x17).bind fun x18 =>
                  some (.next x18)
def text_Encode.b2 (a0 : Text) : Nat → (List Int) → Option (LR ((List Int)) (List Int × Int))
  | i2, x6 =>
    (ixL a0.Code (i2 : Int)).bind fun x8 =>
    (varint_List [x8.Op]).bind fun x9 =>
    (appL 1 x6 x9).bind fun x10 =>
    (text_Parts x8.Op).bind fun x11 =>
    (chkB (decide (ByteArray.size x11.1 ≤ 140737488355328)) (sbytes x11.1)).bind fun x12 =>
    aft (forN (List.length x12 : Int) (text_Encode.b3 x8 x12) x10) (fun s => text_Encode.k3 s) (fun r => some (.ret r))
def text_Encode.k1 (a0 : Text) (x4 : List Int) : Option (List Int × Int) :=
  aft (forN (List.length a0.Code : Int) (text_Encode.b2 a0) x4) (fun s => text_Encode.k2 s) (fun r => some r)
def text_Encode.b1 (a0 : Text) (x3 : List Int) : Nat → (List Int) → Option (LR ((List Int)) (List Int × Int))
  | i1, x4 =>
    (ixL x3 (i1 : Int)).bind fun x41 =>
    (ixL a0.Slots (i1 : Int)).bind fun x42 =>
    (ixL a0.Starts (i1 : Int)).bind fun x43 =>
    (varint_List [x42, w64 (x41 - x43)]).bind fun x44 =>
    (appL 1 x4 x44).bind fun x45 =>
    some (.next x45)
def text_Encode (a0 : Text) : Option (List Int × Int) :=
  (text_Right a0).bind fun x1 =>
  if x1 then
    (varint_List [(List.length a0.Starts : Int)]).bind fun x2 =>
    (text_ends a0).bind fun x3 =>
    aft (forN (List.length x3 : Int) (text_Encode.b1 a0 x3) x2) (fun s => text_Encode.k1 a0 s) (fun r => some r)
  else
    some ([], 1)
end Go.Pf
end
section
namespace Go.Pf
open Go.Pp
def portolanref01_Same.k1  : Option (Bool) :=
  some true
def portolanref01_Same.b1 (a0 : List Int) (a1 : List Int) : Nat → Unit → Option (LR (Unit) (Bool))
  | i1, _ =>
    (ixL a0 (i1 : Int)).bind fun x2 =>
    (ixL a1 (i1 : Int)).bind fun x3 =>
    if (x2 != x3) then
      some (.ret false)
    else
      some (.next ())
def portolanref01_Same (a0 : List Int) (a1 : List Int) : Option (Bool) :=
  if ((List.length a0 : Int) != (List.length a1 : Int)) then
    some false
  else
    aft (forN (List.length a0 : Int) (portolanref01_Same.b1 a0 a1) ()) (fun s => portolanref01_Same.k1) (fun r => some r)
end Go.Pf
end
section
namespace Go.Pf
open Go.Pp
def cmp_isNaN_int (a0 : Int) : Option (Bool) :=
  some (a0 != a0)
end Go.Pf
end
section
namespace Go.Pf
open Go.Pp
def cmp_Less_int (a0 : Int) (a1 : Int) : Option (Bool) :=
  (cmp_isNaN_int a0).bind fun x1 =>
  if x1 then
    (cmp_isNaN_int a1).bind fun x2 =>
    if x2 then
      some (decide (a0 < a1))
    else
      some true
  else
    some (decide (a0 < a1))
end Go.Pf
end
section
namespace Go.Pf
open Go.Pp
def slices_isNaN_int (a0 : Int) : Option (Bool) :=
  some (a0 != a0)
end Go.Pf
end
section
namespace Go.Pf
open Go.Pp
def slices_BinarySearch_int.k1 (a0 : List Int) (a1 : Int) (x1 : Int) : Option (Int × Bool) :=
  if decide (x1 < (List.length a0 : Int)) then
    (ixL a0 x1).bind fun x3 =>
    if (x3 == a1) then
      some (x1, true)
    else
      (slices_isNaN_int x3).bind fun x4 =>
      if x4 then
        (slices_isNaN_int a1).bind fun x5 =>
        some (x1, x5)
      else
        some (x1, false)
  else
    some (x1, false)
def slices_BinarySearch_int.b1 (a0 : List Int) (a1 : Int) : (Int × Int) → Option (LR (Int × Int) (Int × Bool))
  | (x1, x2) =>
    if decide (x1 < x2) then
      (ixL a0 (w64 (shrE (u64 (w64 (x1 + x2))) 1 64))).bind fun x6 =>
      (cmp_Less_int x6 a1).bind fun x7 =>
      if x7 then
        some (.next (w64 ((w64 (shrE (u64 (w64 (x1 + x2))) 1 64)) + 1), x2))
      else
        some (.next (x1, w64 (shrE (u64 (w64 (x1 + x2))) 1 64)))
    else
      some (.brk (x1, x2))
def slices_BinarySearch_int (a0 : List Int) (a1 : Int) : Option (Int × Bool) :=
  aft (whileF (slices_BinarySearch_int.b1 a0 a1) 18446744073709551616 (0, (List.length a0 : Int))) (fun s => slices_BinarySearch_int.k1 a0 a1 s.1) (fun r => some r)
end Go.Pf
end
section
namespace Go.Pf
open Go.Pp
def text_In (a0 : Text) (a1 : Int) : Option (Int) :=
  (text_within a1 0 (w64 ((List.length a0.Code : Int) - 1))).bind fun x1 =>
  if x1 then
    (slices_BinarySearch_int a0.Starts a1).bind fun x2 =>
    if x2.2 then
      some x2.1
    else
      some (w64 (x2.1 - 1))
  else
    some (-1)
end Go.Pf
end
section
namespace Go.Pf
open Go.Pp
def text_reader_take (a0 : text_reader) (a1 : (List Int) → Option (Int × Int × Int)) : Option (text_reader × Int) :=
  if (a0.err != 0) then
    some (a0, 0)
  else
    (a1 a0.b).bind fun x1 =>
    if (x1.2.2 != 0) then
      some (text_reader.mk a0.b x1.2.2, 0)
    else
      (tailL a0.b x1.2.1).bind fun x2 =>
      some (text_reader.mk x2 a0.err, x1.1)
end Go.Pf
end
section
namespace Go.Pf
open Go.Pp
def varint_get.k1 (a0 : List Int) (a1 : Int) : Option (Int × Int × Int) :=
  if decide (a1 ≤ (List.length a0 : Int)) then
    some (0, 0, 3)
  else
    some (0, 0, 2)
def varint_get.j2 (x2 : Int) (x4 : Int) (x7 : Bool) (i1 : Nat) : Option (LR (Int) (Int × Int × Int)) :=
  if x7 then
    some (.ret (0, 0, 4))
  else
    some (.ret (u64 (orW 64 x2 (u64 (shlE (u64 (u8 (clrW 8 x4 128))) (w64 (7 * (i1 : Int))) 64))), w64 ((i1 : Int) + 1), 0))
def varint_get.j1 (x2 : Int) (x4 : Int) (i1 : Nat) : Option (LR (Int) (Int × Int × Int)) :=
  (chkB (decide (¬ (w64 (7 * (i1 : Int))) < 0)) ()).bind fun x5 =>
  if (u8 (andW 8 x4 128) != 0) then
    some (.next (u64 (orW 64 x2 (u64 (shlE (u64 (u8 (clrW 8 x4 128))) (w64 (7 * (i1 : Int))) 64)))))
  else
    if (x4 == 0) then
      varint_get.j2 x2 x4 (decide (0 < (i1 : Int))) i1
    else
      varint_get.j2 x2 x4 false i1
def varint_get.b1 (x1 : List Int) : Nat → Int → Option (LR (Int) (Int × Int × Int))
  | i1, x2 =>
    (ixL x1 (i1 : Int)).bind fun x4 =>
    if ((i1 : Int) == 9) then
      if decide (1 < u64 (u8 (clrW 8 x4 128))) then
        some (.ret (0, 0, 3))
      else
        varint_get.j1 x2 x4 i1
    else
      varint_get.j1 x2 x4 i1
def varint_get (a0 : List Int) (a1 : Int) : Option (Int × Int × Int) :=
  (headL a0 (if a1 < (List.length a0 : Int) then a1 else (List.length a0 : Int))).bind fun x1 =>
  aft (forN (List.length x1 : Int) (varint_get.b1 x1) 0) (fun s => varint_get.k1 a0 a1) (fun r => some r)
end Go.Pf
end
section
namespace Go.Pf
open Go.Pp
def varint_Get (a0 : List Int) : Option (Int × Int × Int) :=
  (varint_get a0 9).bind fun x1 =>
  some (w64 x1.1, x1.2.1, x1.2.2)
end Go.Pf
end
section
namespace Go.Pf
open Go.Pp
def text_reader_within.j1 (x1 : text_reader × Int) (x2 : Int) : Option (text_reader × Int) :=
  if (x2 != 0) then
    some (text_reader.mk x1.1.b x2, 0)
  else
    some (text_reader.mk x1.1.b x2, x1.2)
def text_reader_within (a0 : text_reader) (a1 : Int) (a2 : Int) : Option (text_reader × Int) :=
  (text_reader_take a0 varint_Get).bind fun x1 =>
  if (x1.1.err == 0) then
    (text_within x1.2 a1 a2).bind fun x3 =>
    if x3 then
      text_reader_within.j1 x1 x1.1.err
    else
      text_reader_within.j1 x1 5
  else
    text_reader_within.j1 x1 x1.1.err
end Go.Pf
end
section
namespace Go.Pf
open Go.Pp
def varint_GetSigned (a0 : List Int) : Option (Int × Int × Int) :=
  (varint_get a0 10).bind fun x1 =>
  some (w64 (xorW 64 (w64 (shrE x1.1 1 64)) (w64 (0 - (w64 (u64 (andW 64 x1.1 1)))))), x1.2.1, x1.2.2)
end Go.Pf
end
section
namespace Go.Pf
open Go.Pp
def text_place.j1 (a0 : Int) : Option (Loc × Bool) :=
  some (Loc.mk (w64 (2 - (Int.tmod a0 2))) (w64 (Int.tdiv (w64 (a0 - (w64 (2 - (Int.tmod a0 2))))) 2)), true)
def text_place (a0 : Int) : Option (Loc × Bool) :=
  if (a0 == 0) then
    some (Loc.mk 0 0, false)
  else
    if (Int.tmod a0 2 == 1) then
      if decide (32 ≤ w64 (Int.tdiv a0 2)) then
        some (Loc.mk 0 0, false)
      else
        text_place.j1 a0
    else
      text_place.j1 a0
end Go.Pf
end
section
namespace Go.Pf
open Go.Pp
def text_reader_loc (a0 : text_reader) : Option (text_reader × Loc) :=
  (text_reader_within a0 0 9223372036854775807).bind fun x1 =>
  (text_place x1.2).bind fun x2 =>
  if x2.2 then
    some (x1.1, x2.1)
  else
    if (x1.1.err == 0) then
      some (text_reader.mk x1.1.b 5, x2.1)
    else
      some (x1.1, x2.1)
end Go.Pf
end
section
namespace Go.Pf
open Go.Pp
def text_reader_ins.k1 (x1 : text_reader × Int) (x5 : List Loc) (x6 : Int) (x7 : Int) (x8 : Int) (x9 : Int) (x10 : Int) (x11 : Int) (x12 : Int) (x13 : Int) (x14 : Int) (x15 : Int) (x16 : List Int) (x17 : Int) : Option (text_reader × Mins) :=
  some (text_reader.mk x16 x17, Mins.mk x1.2 (Loc.mk x6 x7) (Loc.mk x8 x9) (Loc.mk x10 x11) (Loc.mk x12 x13) x14 x15 x5)
def text_reader_ins.k2 (x6 : Int) (x7 : Int) (x8 : Int) (x9 : Int) (x10 : Int) (x11 : Int) (x12 : Int) (x13 : Int) (x14 : Int) (x15 : Int) (x25 : List Loc) (x26 : List Int) (x27 : Int) : Option (LR (List Loc × Int × Int × Int × Int × Int × Int × Int × Int × Int × Int × List Int × Int) (text_reader × Mins)) :=
  some (.next (x25, x6, x7, x8, x9, x10, x11, x12, x13, x14, x15, x26, x27))
def text_reader_ins.b2  : Nat → ((List Loc) × (List Int) × Int) → Option (LR ((List Loc) × (List Int) × Int) (text_reader × Mins))
  | i2, (x25, x26, x27) =>
    (text_reader_loc (text_reader.mk x26 x27)).bind fun x29 =>
    (appL 16 x25 [x29.2]).bind fun x30 =>
    some (.next (x30, x29.1.b, x29.1.err))
def text_reader_ins.b1 (x4 : List Int) : Nat → ((List Loc) × Int × Int × Int × Int × Int × Int × Int × Int × Int × Int × (List Int) × Int) → Option (LR ((List Loc) × Int × Int × Int × Int × Int × Int × Int × Int × Int × Int × (List Int) × Int) (text_reader × Mins))
  | i1, (x5, x6, x7, x8, x9, x10, x11, x12, x13, x14, x15, x16, x17) =>
    (ixL x4 (i1 : Int)).bind fun x19 =>
    if (x19 == 78) then
      (text_reader_within (text_reader.mk x16 x17) 0 9223372036854775807).bind fun x33 =>
      some (.next (x5, x6, x7, x8, x9, x10, x11, x12, x13, x33.2, x15, x33.1.b, x33.1.err))
    else
      if (x19 == 77) then
        (text_reader_within (text_reader.mk x16 x17) 0 9223372036854775807).bind fun x32 =>
        some (.next (x5, x6, x7, x8, x9, x10, x11, x12, x13, x14, x32.2, x32.1.b, x32.1.err))
      else
        if (x19 == 110) then
          (text_reader_take (text_reader.mk x16 x17) varint_GetSigned).bind fun x31 =>
          some (.next (x5, x6, x7, x8, x9, x10, x11, x12, x13, x31.2, x15, x31.1.b, x31.1.err))
        else
          if (x19 == 76) then
            (text_reader_within (text_reader.mk x16 x17) 0 4).bind fun x24 =>
            aft (forN x24.2 text_reader_ins.b2 (x5, x24.1.b, x24.1.err)) (fun s => text_reader_ins.k2 x6 x7 x8 x9 x10 x11 x12 x13 x14 x15 s.1 s.2.1 s.2.2) (fun r => some (.ret r))
          else
            if (x19 == 68) then
              (text_reader_loc (text_reader.mk x16 x17)).bind fun x23 =>
              some (.next (x5, x23.2.Kind, x23.2.N, x8, x9, x10, x11, x12, x13, x14, x15, x23.1.b, x23.1.err))
            else
              if (x19 == 65) then
                (text_reader_loc (text_reader.mk x16 x17)).bind fun x22 =>
                some (.next (x5, x6, x7, x22.2.Kind, x22.2.N, x10, x11, x12, x13, x14, x15, x22.1.b, x22.1.err))
              else
                if (x19 == 66) then
                  (text_reader_loc (text_reader.mk x16 x17)).bind fun x21 =>
                  some (.next (x5, x6, x7, x8, x9, x21.2.Kind, x21.2.N, x12, x13, x14, x15, x21.1.b, x21.1.err))
                else
                  (text_reader_loc (text_reader.mk x16 x17)).bind fun x20 =>
                  some (.next (x5, x6, x7, x8, x9, x10, x11, x20.2.Kind, x20.2.N, x14, x15, x20.1.b, x20.1.err))
def text_reader_ins.j1 (x1 : text_reader × Int) (x2 : ByteArray × Bool) (x3 : Int) : Option (text_reader × Mins) :=
  (chkB (decide (ByteArray.size x2.1 ≤ 140737488355328)) (sbytes x2.1)).bind fun x4 =>
  aft (forN (List.length x4 : Int) (text_reader_ins.b1 x4) ([], 0, 0, 0, 0, 0, 0, 0, 0, 0, 0, x1.1.b, x3)) (fun s => text_reader_ins.k1 x1 s.1 s.2.1 s.2.2.1 s.2.2.2.1 s.2.2.2.2.1 s.2.2.2.2.2.1 s.2.2.2.2.2.2.1 s.2.2.2.2.2.2.2.1 s.2.2.2.2.2.2.2.2.1 s.2.2.2.2.2.2.2.2.2.1 s.2.2.2.2.2.2.2.2.2.2.1 s.2.2.2.2.2.2.2.2.2.2.2.1 s.2.2.2.2.2.2.2.2.2.2.2.2) (fun r => some r)
def text_reader_ins (a0 : text_reader) : Option (text_reader × Mins) :=
  (text_reader_within a0 0 9223372036854775807).bind fun x1 =>
  (text_Parts x1.2).bind fun x2 =>
  if x2.2 then
    text_reader_ins.j1 x1 x2 x1.1.err
  else
    if (x1.1.err == 0) then
      text_reader_ins.j1 x1 x2 5
    else
      text_reader_ins.j1 x1 x2 x1.1.err
end Go.Pf
end
section
namespace Go.Pf
open Go.Pp
def text_Decode.j1 (x2 : List Int) (x3 : List Int) (x8 : List Mins) (x12 : Int) : Option (Text × Int) :=
  if (x12 != 0) then
    some (Text.mk [] [] [], x12)
  else
    some (Text.mk x8 x2 x3, 0)
def text_Decode.k2 (x2 : List Int) (x3 : List Int) (x8 : List Mins) (x9 : List Int) (x10 : Int) : Option (Text × Int) :=
  if (x10 == 0) then
    if decide (0 < (List.length x9 : Int)) then
      text_Decode.j1 x2 x3 x8 5
    else
      (text_Right (Text.mk x8 x2 x3)).bind fun x13 =>
      if x13 then
        text_Decode.j1 x2 x3 x8 x10
      else
        text_Decode.j1 x2 x3 x8 5
  else
    text_Decode.j1 x2 x3 x8 x10
def text_Decode.b2  : Nat → ((List Mins) × (List Int) × Int) → Option (LR ((List Mins) × (List Int) × Int) (Text × Int))
  | i2, (x8, x9, x10) =>
    if (x10 == 0) then
      (text_reader_ins (text_reader.mk x9 x10)).bind fun x14 =>
      (appL 112 x8 [x14.2]).bind fun x15 =>
      some (.next (x15, x14.1.b, x14.1.err))
    else
      some (.brk (x8, x9, x10))
def text_Decode.k1 (x2 : List Int) (x3 : List Int) (x4 : List Int) (x5 : Int) (x6 : Int) : Option (Text × Int) :=
  aft (forN x6 text_Decode.b2 ([], x4, x5)) (fun s => text_Decode.k2 x2 x3 s.1 s.2.1 s.2.2) (fun r => some r)
def text_Decode.b1  : Nat → ((List Int) × (List Int) × (List Int) × Int × Int) → Option (LR ((List Int) × (List Int) × (List Int) × Int × Int) (Text × Int))
  | i1, (x2, x3, x4, x5, x6) =>
    (appL 8 x2 [x6]).bind fun x16 =>
    (text_reader_within (text_reader.mk x4 x5) 0 9223372036854775807).bind fun x17 =>
    (appL 8 x3 [x17.2]).bind fun x18 =>
    (text_reader_within x17.1 1 (w64 (8000 - x6))).bind fun x19 =>
    some (.next (x16, x18, x19.1.b, x19.1.err, w64 (x6 + x19.2)))
def text_Decode (a0 : List Int) : Option (Text × Int) :=
  (text_reader_within (text_reader.mk a0 0) 1 8).bind fun x1 =>
  aft (forN x1.2 text_Decode.b1 ([], [], x1.1.b, x1.1.err, 0)) (fun s => text_Decode.k1 s.1 s.2.1 s.2.2.1 s.2.2.2.1 s.2.2.2.2) (fun r => some r)
end Go.Pf
end
section
namespace Go.Pf
open Go.Pp
def portolanref01_Ints.k1  : Option (Bool) :=
  some true
def portolanref01_Ints.b1 (a0 : List Int) (a1 : List Int) : Nat → Unit → Option (LR (Unit) (Bool))
  | i1, _ =>
    (ixL a0 (i1 : Int)).bind fun x2 =>
    (ixL a1 (i1 : Int)).bind fun x3 =>
    if (x2 != x3) then
      some (.ret false)
    else
      some (.next ())
def portolanref01_Ints (a0 : List Int) (a1 : List Int) : Option (Bool) :=
  if ((List.length a0 : Int) != (List.length a1 : Int)) then
    some false
  else
    aft (forN (List.length a0 : Int) (portolanref01_Ints.b1 a0 a1) ()) (fun s => portolanref01_Ints.k1) (fun r => some r)
end Go.Pf
end
section
namespace Go.Pf
open Go.Pp
def portolanref16_Same.k1  : Option (Bool) :=
  some true
def portolanref16_Same.b1 (a0 : List Loc) (a1 : List Loc) : Nat → Unit → Option (LR (Unit) (Bool))
  | i1, _ =>
    (ixL a0 (i1 : Int)).bind fun x2 =>
    (ixL a1 (i1 : Int)).bind fun x3 =>
    if decide (x2.Kind = x3.Kind) && decide (x2.N = x3.N) then
      some (.next ())
    else
      some (.ret false)
def portolanref16_Same (a0 : List Loc) (a1 : List Loc) : Option (Bool) :=
  if ((List.length a0 : Int) != (List.length a1 : Int)) then
    some false
  else
    aft (forN (List.length a0 : Int) (portolanref16_Same.b1 a0 a1) ()) (fun s => portolanref16_Same.k1) (fun r => some r)
end Go.Pf
end
section
namespace Go.Pf
open Go.Pp
def portolanref19_SameIns (a0 : Mins) (a1 : Mins) : Option (Bool) :=
  if (a0.Op == a1.Op) then
    if decide (a0.D.Kind = a1.D.Kind) && decide (a0.D.N = a1.D.N) then
      if decide (a0.A.Kind = a1.A.Kind) && decide (a0.A.N = a1.A.N) then
        if decide (a0.B.Kind = a1.B.Kind) && decide (a0.B.N = a1.B.N) then
          if decide (a0.C.Kind = a1.C.Kind) && decide (a0.C.N = a1.C.N) then
            if (a0.N == a1.N) then
              if (a0.M == a1.M) then
                (portolanref16_Same a0.Args a1.Args).bind fun x1 =>
                some x1
              else
                some false
            else
              some false
          else
            some false
        else
          some false
      else
        some false
    else
      some false
  else
    some false
end Go.Pf
end
section
namespace Go.Pf
open Go.Pp
def portolanref19_Same.k1  : Option (Bool) :=
  some true
def portolanref19_Same.b1 (a0 : Text) (a1 : Text) : Nat → Unit → Option (LR (Unit) (Bool))
  | i1, _ =>
    (ixL a0.Code (i1 : Int)).bind fun x4 =>
    (ixL a1.Code (i1 : Int)).bind fun x5 =>
    (portolanref19_SameIns x4 x5).bind fun x6 =>
    if x6 then
      some (.next ())
    else
      some (.ret false)
def portolanref19_Same.j1 (a0 : Text) (a1 : Text) (x2 : Bool) : Option (Bool) :=
  if x2 then
    some false
  else
    aft (forN (List.length a0.Code : Int) (portolanref19_Same.b1 a0 a1) ()) (fun s => portolanref19_Same.k1) (fun r => some r)
def portolanref19_Same (a0 : Text) (a1 : Text) : Option (Bool) :=
  if ((List.length a0.Code : Int) != (List.length a1.Code : Int)) then
    portolanref19_Same.j1 a0 a1 true
  else
    (portolanref01_Ints a0.Starts a1.Starts).bind fun x7 =>
    if x7 then
      (portolanref01_Ints a0.Slots a1.Slots).bind fun x8 =>
      portolanref19_Same.j1 a0 a1 (!x8)
    else
      portolanref19_Same.j1 a0 a1 true
end Go.Pf
end
section
namespace Go.Pf
open Go.Pp
def portolanlaw19_alive  : Option (Bool) :=
  (text_Encode (Text.mk [Mins.mk 23 (Loc.mk 0 0) (Loc.mk 2 0) (Loc.mk 0 0) (Loc.mk 0 0) 0 0 []] [0] [1])).bind fun x1 =>
  (text_Decode x1.1).bind fun x2 =>
  if (x1.2 == 0) then
    if (x2.2 == 0) then
      (portolanref01_Same x1.1 [1, 1, 1, 23, 2]).bind fun x3 =>
      if x3 then
        (portolanref19_Same (Text.mk [Mins.mk 23 (Loc.mk 0 0) (Loc.mk 2 0) (Loc.mk 0 0) (Loc.mk 0 0) 0 0 []] [0] [1]) x2.1).bind fun x4 =>
        if x4 then
          (text_In (Text.mk [Mins.mk 23 (Loc.mk 0 0) (Loc.mk 2 0) (Loc.mk 0 0) (Loc.mk 0 0) 0 0 []] [0] [1]) 0).bind fun x5 =>
          if (x5 == 0) then
            (text_In (Text.mk [Mins.mk 23 (Loc.mk 0 0) (Loc.mk 2 0) (Loc.mk 0 0) (Loc.mk 0 0) 0 0 []] [0] [1]) 1).bind fun x6 =>
            some (x6 == (-1))
          else
            some false
        else
          some false
      else
        some false
    else
      some false
  else
    some false
end Go.Pf
end
section
namespace Go.Pf
open Go.Pp
def portolanref19_Great.k1 (x1 : Int) : Option (Bool) :=
  some (decide (2000 < x1))
def portolanref19_Great.b1 (a0 : Text) : Nat → Int → Option (LR (Int) (Bool))
  | i1, x1 =>
    if decide (x1 ≤ 2000) then
      (ixL a0.Code (i1 : Int)).bind fun x3 =>
      some (.next (w64 (x1 + (List.length x3.Args : Int))))
    else
      some (.brk x1)
def portolanref19_Great (a0 : Text) : Option (Bool) :=
  aft (forN (List.length a0.Code : Int) (portolanref19_Great.b1 a0) (w64 ((w64 ((List.length a0.Code : Int) + (List.length a0.Starts : Int))) + (List.length a0.Slots : Int)))) (fun s => portolanref19_Great.k1 s) (fun r => some r)
end Go.Pf
end
section
namespace Go.Pf
open Go.Pp
def portolanref03_Parts.j5 (a0 : Int) (x15 : Bool) : Option (ByteArray) :=
  if x15 then
    some ({ data := #[65] } : ByteArray)
  else
    if (a0 == 21) then
      some ({ data := #[78] } : ByteArray)
    else
      if (a0 == 22) then
        some ({ data := #[65, 78, 77] } : ByteArray)
      else
        some ({ data := #[] } : ByteArray)
def portolanref03_Parts.j4 (a0 : Int) (x13 : Bool) : Option (ByteArray) :=
  if x13 then
    some ({ data := #[65, 78, 66] } : ByteArray)
  else
    if (a0 == 16) then
      some ({ data := #[68, 65, 110] } : ByteArray)
    else
      if (a0 == 18) then
        some ({ data := #[65, 66] } : ByteArray)
      else
        if (a0 == 19) then
          some ({ data := #[68, 78, 76] } : ByteArray)
        else
          if (a0 == 20) then
            portolanref03_Parts.j5 a0 true
          else
            portolanref03_Parts.j5 a0 (a0 == 23)
def portolanref03_Parts.j3 (a0 : Int) (x11 : Bool) : Option (ByteArray) :=
  if x11 then
    some ({ data := #[68, 65, 78] } : ByteArray)
  else
    if (a0 == 12) then
      portolanref03_Parts.j4 a0 true
    else
      portolanref03_Parts.j4 a0 (a0 == 14)
def portolanref03_Parts.j2 (a0 : Int) (x8 : Bool) : Option (ByteArray) :=
  if x8 then
    some ({ data := #[68, 65, 66] } : ByteArray)
  else
    if (a0 == 7) then
      some ({ data := #[68] } : ByteArray)
    else
      if (a0 == 10) then
        some ({ data := #[68, 78, 77] } : ByteArray)
      else
        if (a0 == 11) then
          portolanref03_Parts.j3 a0 true
        else
          if (a0 == 13) then
            portolanref03_Parts.j3 a0 true
          else
            portolanref03_Parts.j3 a0 (a0 == 15)
def portolanref03_Parts.j1 (a0 : Int) (x3 : Bool) : Option (ByteArray) :=
  if x3 then
    some ({ data := #[68, 65] } : ByteArray)
  else
    if (a0 == 3) then
      portolanref03_Parts.j2 a0 true
    else
      if (a0 == 4) then
        portolanref03_Parts.j2 a0 true
      else
        if (a0 == 5) then
          portolanref03_Parts.j2 a0 true
        else
          if (a0 == 6) then
            portolanref03_Parts.j2 a0 true
          else
            portolanref03_Parts.j2 a0 (a0 == 9)
def portolanref03_Parts (a0 : Int) : Option (ByteArray) :=
  if (a0 == 1) then
    some ({ data := #[68, 110] } : ByteArray)
  else
    if (a0 == 2) then
      portolanref03_Parts.j1 a0 true
    else
      if (a0 == 8) then
        portolanref03_Parts.j1 a0 true
      else
        portolanref03_Parts.j1 a0 (a0 == 17)
end Go.Pf
end
section
namespace Go.Pf
open Go.Pp
def portolanref19_Parts (a0 : Int) : Option (ByteArray × Bool) :=
  if (a0 == 25) then
    some (({ data := #[68, 65] } : ByteArray), true)
  else
    if (a0 == 24) then
      some (({ data := #[] } : ByteArray), true)
    else
      if (a0 == 17) then
        some (({ data := #[68, 65, 67] } : ByteArray), true)
      else
        if (a0 == 18) then
          some (({ data := #[65, 66, 67] } : ByteArray), true)
        else
          (portolanref03_Parts a0).bind fun x1 =>
          some (x1, !(ByteArray.toList x1 == ByteArray.toList ({ data := #[] } : ByteArray)))
end Go.Pf
end
section
namespace Go.Pf
open Go.Pp
def portolanref19_loc (a0 : Mins) (a1 : Int) : Option (Loc) :=
  if (a1 == 68) then
    some a0.D
  else
    if (a1 == 65) then
      some a0.A
    else
      if (a1 == 66) then
        some a0.B
      else
        some a0.C
end Go.Pf
end
section
namespace Go.Pf
open Go.Pp
def portolanref19_has.k1  : Option (Bool) :=
  some false
def portolanref19_has.b1 (a0 : ByteArray) (a1 : Int) : Nat → Unit → Option (LR (Unit) (Bool))
  | i1, _ =>
    (ixS a0 (i1 : Int)).bind fun x2 =>
    if (x2 == a1) then
      some (.ret true)
    else
      some (.next ())
def portolanref19_has (a0 : ByteArray) (a1 : Int) : Option (Bool) :=
  aft (forN (ByteArray.size a0 : Int) (portolanref19_has.b1 a0 a1) ()) (fun s => portolanref19_has.k1) (fun r => some r)
end Go.Pf
end
section
namespace Go.Pf
open Go.Pp
def portolanref19_in (a0 : Loc) (a1 : Int) : Option (Bool) :=
  if (a0.Kind == 1) then
    if decide (0 ≤ a0.N) then
      if decide (a0.N ≤ 31) then
        some true
      else
        if (a0.Kind == 2) then
          some (decide (a0.N < a1))
        else
          some false
    else
      if (a0.Kind == 2) then
        some false
      else
        some false
  else
    if (a0.Kind == 2) then
      if decide (0 ≤ a0.N) then
        some (decide (a0.N < a1))
      else
        some false
    else
      some false
end Go.Pf
end
section
namespace Go.Pf
open Go.Pp
def portolanref19_within (a0 : Int) (a1 : Int) (a2 : Int) : Option (Bool) :=
  if decide (a1 ≤ a0) then
    some (decide (a0 ≤ a2))
  else
    some false
end Go.Pf
end
section
namespace Go.Pf
open Go.Pp
def portolanref19_numbers.j1 (a1 : Mins) (x5 : Bool) : Option (Bool) :=
  if x5 then
    (portolanref19_within a1.N 0 7).bind fun x8 =>
    some x8
  else
    if (a1.Op == 16) then
      (portolanref19_within a1.N (-8) 8).bind fun x7 =>
      some x7
    else
      if (a1.Op == 1) then
        (portolanref19_within a1.N (-2147483648) 2147483648).bind fun x6 =>
        some x6
      else
        some true
def portolanref19_numbers (a0 : Text) (a1 : Mins) (a2 : Int) (a3 : Int) : Option (Bool) :=
  if (a1.Op == 21) then
    (portolanref19_within a1.N a2 (w64 (a3 - 1))).bind fun x14 =>
    some x14
  else
    if (a1.Op == 22) then
      (portolanref19_within a1.N a2 (w64 (a3 - 1))).bind fun x12 =>
      if x12 then
        (portolanref19_within a1.M a2 (w64 (a3 - 1))).bind fun x13 =>
        some x13
      else
        some false
    else
      if (a1.Op == 19) then
        (portolanref19_within a1.N 0 (w64 ((List.length a0.Starts : Int) - 1))).bind fun x11 =>
        some x11
      else
        if (a1.Op == 10) then
          (portolanref19_within a1.N 0 8).bind fun x9 =>
          if x9 then
            (portolanref19_within a1.M 0 8).bind fun x10 =>
            some x10
          else
            some false
        else
          if (a1.Op == 15) then
            portolanref19_numbers.j1 a1 true
          else
            if (a1.Op == 11) then
              portolanref19_numbers.j1 a1 true
            else
              if (a1.Op == 13) then
                portolanref19_numbers.j1 a1 true
              else
                if (a1.Op == 12) then
                  portolanref19_numbers.j1 a1 true
                else
                  portolanref19_numbers.j1 a1 (a1.Op == 14)
end Go.Pf
end
section
namespace Go.Pf
open Go.Pp
def portolanref19_ins.k2 (a0 : Text) (a1 : Mins) (a2 : Int) (a3 : Int) : Option (Bool) :=
  (portolanref19_numbers a0 a1 a2 a3).bind fun x4 =>
  some x4
def portolanref19_ins.b2 (a1 : Mins) (a4 : Int) : Nat → Unit → Option (LR (Unit) (Bool))
  | i2, _ =>
    (ixL a1.Args (i2 : Int)).bind fun x5 =>
    (portolanref19_in x5 a4).bind fun x6 =>
    if x6 then
      some (.next ())
    else
      some (.ret false)
def portolanref19_ins.j1 (a0 : Text) (a1 : Mins) (a2 : Int) (a3 : Int) (a4 : Int) : Option (Bool) :=
  aft (forN (List.length a1.Args : Int) (portolanref19_ins.b2 a1 a4) ()) (fun s => portolanref19_ins.k2 a0 a1 a2 a3) (fun r => some r)
def portolanref19_ins.k1 (a0 : Text) (a1 : Mins) (a2 : Int) (a3 : Int) (a4 : Int) (x1 : ByteArray × Bool) : Option (Bool) :=
  (portolanref19_has x1.1 78).bind fun x7 =>
  if x7 then
    (portolanref19_has x1.1 77).bind fun x15 =>
    if x15 then
      (portolanref19_has x1.1 76).bind fun x17 =>
      if x17 then
        if decide (4 < (List.length a1.Args : Int)) then
          some false
        else
          portolanref19_ins.j1 a0 a1 a2 a3 a4
      else
        if decide (0 < (List.length a1.Args : Int)) then
          some false
        else
          if decide (4 < (List.length a1.Args : Int)) then
            some false
          else
            portolanref19_ins.j1 a0 a1 a2 a3 a4
    else
      if (a1.M != 0) then
        some false
      else
        (portolanref19_has x1.1 76).bind fun x16 =>
        if x16 then
          if decide (4 < (List.length a1.Args : Int)) then
            some false
          else
            portolanref19_ins.j1 a0 a1 a2 a3 a4
        else
          if decide (0 < (List.length a1.Args : Int)) then
            some false
          else
            if decide (4 < (List.length a1.Args : Int)) then
              some false
            else
              portolanref19_ins.j1 a0 a1 a2 a3 a4
  else
    (portolanref19_has x1.1 110).bind fun x8 =>
    if x8 then
      (portolanref19_has x1.1 77).bind fun x12 =>
      if x12 then
        (portolanref19_has x1.1 76).bind fun x14 =>
        if x14 then
          if decide (4 < (List.length a1.Args : Int)) then
            some false
          else
            portolanref19_ins.j1 a0 a1 a2 a3 a4
        else
          if decide (0 < (List.length a1.Args : Int)) then
            some false
          else
            if decide (4 < (List.length a1.Args : Int)) then
              some false
            else
              portolanref19_ins.j1 a0 a1 a2 a3 a4
      else
        if (a1.M != 0) then
          some false
        else
          (portolanref19_has x1.1 76).bind fun x13 =>
          if x13 then
            if decide (4 < (List.length a1.Args : Int)) then
              some false
            else
              portolanref19_ins.j1 a0 a1 a2 a3 a4
          else
            if decide (0 < (List.length a1.Args : Int)) then
              some false
            else
              if decide (4 < (List.length a1.Args : Int)) then
                some false
              else
                portolanref19_ins.j1 a0 a1 a2 a3 a4
    else
      if (a1.N != 0) then
        some false
      else
        (portolanref19_has x1.1 77).bind fun x9 =>
        if x9 then
          (portolanref19_has x1.1 76).bind fun x11 =>
          if x11 then
            if decide (4 < (List.length a1.Args : Int)) then
              some false
            else
              portolanref19_ins.j1 a0 a1 a2 a3 a4
          else
            if decide (0 < (List.length a1.Args : Int)) then
              some false
            else
              if decide (4 < (List.length a1.Args : Int)) then
                some false
              else
                portolanref19_ins.j1 a0 a1 a2 a3 a4
        else
          if (a1.M != 0) then
            some false
          else
            (portolanref19_has x1.1 76).bind fun x10 =>
            if x10 then
              if decide (4 < (List.length a1.Args : Int)) then
                some false
              else
                portolanref19_ins.j1 a0 a1 a2 a3 a4
            else
              if decide (0 < (List.length a1.Args : Int)) then
                some false
              else
                if decide (4 < (List.length a1.Args : Int)) then
                  some false
                else
                  portolanref19_ins.j1 a0 a1 a2 a3 a4
def portolanref19_ins.b1 (a1 : Mins) (a4 : Int) (x1 : ByteArray × Bool) : Nat → Unit → Option (LR (Unit) (Bool))
  | i1, _ =>
    (ixS ({ data := #[68, 65, 66, 67] } : ByteArray) (i1 : Int)).bind fun x18 =>
    (portolanref19_loc a1 x18).bind fun x19 =>
    (portolanref19_has x1.1 x18).bind fun x20 =>
    if x20 then
      (portolanref19_in x19 a4).bind fun x21 =>
      if x21 then
        some (.next ())
      else
        some (.ret false)
    else
      if decide (x19.Kind = 0) && decide (x19.N = 0) then
        some (.next ())
      else
        some (.ret false)
def portolanref19_ins (a0 : Text) (a1 : Mins) (a2 : Int) (a3 : Int) (a4 : Int) : Option (Bool) :=
  (portolanref19_Parts a1.Op).bind fun x1 =>
  if x1.2 then
    aft (forN 4 (portolanref19_ins.b1 a1 a4 x1) ()) (fun s => portolanref19_ins.k1 a0 a1 a2 a3 a4 x1) (fun r => some r)
  else
    some false
end Go.Pf
end
section
namespace Go.Pf
open Go.Pp
def portolanref19_Right.k1  : Option (Bool) :=
  some true
def portolanref19_Right.k2 (a0 : Text) (x8 : Int) : Option (LR (Unit) (Bool)) :=
  (ixL a0.Code (w64 (x8 - 1))).bind fun x15 =>
  if (x15.Op != 21) then
    if (x15.Op != 22) then
      if (x15.Op != 23) then
        some (.ret false)
      else
        some (.next ())
    else
      some (.next ())
  else
    some (.next ())
def portolanref19_Right.b2 (a0 : Text) (x8 : Int) (x9 : Int) (i1 : Nat) : Int → Option (LR (Int) (Bool))
  | x14 =>
    if decide (x14 < x8) then
      (ixL a0.Code x14).bind fun x16 =>
      (ixL a0.Slots (i1 : Int)).bind fun x17 =>
      (portolanref19_ins a0 x16 x9 x8 x17).bind fun x18 =>
      if x18 then
        some (.next (w64 (x14 + 1)))
      else
        some (.ret false)
    else
      some (.brk x14)
def portolanref19_Right.j3 (a0 : Text) (x8 : Int) (x9 : Int) (x13 : Bool) (i1 : Nat) : Option (LR (Unit) (Bool)) :=
  if x13 then
    some (.ret false)
  else
    aft (whileF (portolanref19_Right.b2 a0 x8 x9 i1) 18446744073709551616 x9) (fun s => portolanref19_Right.k2 a0 x8) (fun r => some (.ret r))
def portolanref19_Right.j2 (a0 : Text) (x8 : Int) (i1 : Nat) : Option (LR (Unit) (Bool)) :=
  (ixL a0.Starts (i1 : Int)).bind fun x9 =>
  if decide ((List.length a0.Code : Int) < x8) then
    portolanref19_Right.j3 a0 x8 x9 true i1
  else
    if decide (x8 ≤ x9) then
      portolanref19_Right.j3 a0 x8 x9 true i1
    else
      (ixL a0.Slots (i1 : Int)).bind fun x19 =>
      if decide (x19 < 1) then
        portolanref19_Right.j3 a0 x8 x9 true i1
      else
        portolanref19_Right.j3 a0 x8 x9 (decide (160 < x19)) i1
def portolanref19_Right.b1 (a0 : Text) : Nat → Unit → Option (LR (Unit) (Bool))
  | i1, _ =>
    if decide (w64 ((i1 : Int) + 1) < (List.length a0.Starts : Int)) then
      (ixL a0.Starts (w64 ((i1 : Int) + 1))).bind fun x20 =>
      portolanref19_Right.j2 a0 x20 i1
    else
      portolanref19_Right.j2 a0 (List.length a0.Code : Int) i1
def portolanref19_Right.j1 (a0 : Text) (x5 : Bool) : Option (Bool) :=
  if x5 then
    some false
  else
    aft (forN (List.length a0.Starts : Int) (portolanref19_Right.b1 a0) ()) (fun s => portolanref19_Right.k1) (fun r => some r)
def portolanref19_Right (a0 : Text) : Option (Bool) :=
  if decide ((List.length a0.Starts : Int) < 1) then
    portolanref19_Right.j1 a0 true
  else
    if decide (8 < (List.length a0.Starts : Int)) then
      portolanref19_Right.j1 a0 true
    else
      if ((List.length a0.Slots : Int) != (List.length a0.Starts : Int)) then
        portolanref19_Right.j1 a0 true
      else
        if decide (8000 < (List.length a0.Code : Int)) then
          portolanref19_Right.j1 a0 true
        else
          (ixL a0.Starts 0).bind fun x21 =>
          portolanref19_Right.j1 a0 (x21 != 0)
end Go.Pf
end
section
namespace Go.Pf
open Go.Pp
def portolanref01_digits.k1 (x1 : List Int) (x2 : Int) : Option (List Int) :=
  (appL 1 x1 [u8 x2]).bind fun x3 =>
  some x3
def portolanref01_digits.b1  : ((List Int) × Int) → Option (LR ((List Int) × Int) (List Int))
  | (x1, x2) =>
    if decide (128 ≤ x2) then
      (appL 1 x1 [u8 ((u8 (Int.tmod x2 128)) + 128)]).bind fun x4 =>
      some (.next (x4, u64 (Int.tdiv x2 128)))
    else
      some (.brk (x1, x2))
def portolanref01_digits (a0 : Int) : Option (List Int) :=
  aft (whileF portolanref01_digits.b1 18446744073709551616 ([], a0)) (fun s => portolanref01_digits.k1 s.1 s.2) (fun r => some r)
end Go.Pf
end
section
namespace Go.Pf
open Go.Pp
def portolanref01_Put (a0 : List Int) (a1 : Int) : Option (List Int) :=
  (appL 1 [] a0).bind fun x1 =>
  if decide (a1 < 0) then
    some x1
  else
    (portolanref01_digits (u64 a1)).bind fun x2 =>
    (appL 1 x1 x2).bind fun x3 =>
    some x3
end Go.Pf
end
section
namespace Go.Pf
open Go.Pp
def portolanref01_List.k1 (x1 : List Int) : Option (List Int) :=
  some x1
def portolanref01_List.b1 (a0 : List Int) : Nat → (List Int) → Option (LR ((List Int)) (List Int))
  | i1, x1 =>
    (ixL a0 (i1 : Int)).bind fun x3 =>
    (portolanref01_Put x1 x3).bind fun x4 =>
    some (.next x4)
def portolanref01_List (a0 : List Int) : Option (List Int) :=
  aft (forN (List.length a0 : Int) (portolanref01_List.b1 a0) []) (fun s => portolanref01_List.k1 s) (fun r => some r)
end Go.Pf
end
section
namespace Go.Pf
open Go.Pp
def portolanref01_turned (a0 : Int) : Option (Int) :=
  if decide (a0 < 0) then
    some (u64 ((u64 ((u64 (w64 (0 - (w64 (a0 + 1))))) * 2)) + 1))
  else
    some (u64 ((u64 a0) * 2))
end Go.Pf
end
section
namespace Go.Pf
open Go.Pp
def portolanref01_PutSigned (a0 : List Int) (a1 : Int) : Option (List Int) :=
  (appL 1 [] a0).bind fun x1 =>
  (portolanref01_turned a1).bind fun x2 =>
  (portolanref01_digits x2).bind fun x3 =>
  (appL 1 x1 x3).bind fun x4 =>
  some x4
end Go.Pf
end
section
namespace Go.Pf
open Go.Pp
def portolanref19_Code (a0 : Loc) : Option (Int) :=
  if (a0.Kind == 1) then
    some (w64 ((w64 (2 * a0.N)) + 1))
  else
    if (a0.Kind == 2) then
      some (w64 ((w64 (2 * a0.N)) + 2))
    else
      some 0
end Go.Pf
end
section
namespace Go.Pf
open Go.Pp
def portolanref19_Encode.k2 (x5 : List Int) : Option (List Int × Int) :=
  some (x5, 0)
def portolanref19_Encode.k3 (x11 : List Int) : Option (LR (List Int) (List Int × Int)) :=
  some (.next x11)
def portolanref19_Encode.k4 (x20 : List Int) : Option (LR (List Int) (List Int × Int)) :=
  some (.next x20)
def portolanref19_Encode.b4 (x7 : Mins) : Nat → (List Int) → Option (LR ((List Int)) (List Int × Int))
  | i4, x20 =>
    (ixL x7.Args (i4 : Int)).bind fun x22 =>
    (portolanref19_Code x22).bind fun x23 =>
    (portolanref01_List [x23]).bind fun x24 =>
    (appL 1 x20 x24).bind fun x25 =>
    some (.next x25)
def portolanref19_Encode.b3 (x7 : Mins) (x10 : ByteArray × Bool) : Nat → (List Int) → Option (LR ((List Int)) (List Int × Int))
  | i3, x11 =>
    (ixS x10.1 (i3 : Int)).bind fun x13 =>
    if (x13 == 78) then
      (portolanref01_List [x7.N]).bind fun x30 =>
      (appL 1 x11 x30).bind fun x31 =>
      some (.next x31)
    else
      if (x13 == 77) then
        (portolanref01_List [x7.M]).bind fun x28 =>
        (appL 1 x11 x28).bind fun x29 =>
        some (.next x29)
      else
        if (x13 == 110) then
          (portolanref01_PutSigned [] x7.N).bind fun x26 =>
          (appL 1 x11 x26).bind fun x27 =>
          some (.next x27)
        else
          if (x13 == 76) then
            (portolanref01_List [(List.length x7.Args : Int)]).bind fun x18 =>
            (appL 1 x11 x18).bind fun x19 =>
            aft (forN (List.length x7.Args : Int) (portolanref19_Encode.b4 x7) x19) (fun s => portolanref19_Encode.k4 s) (fun r => some (.ret r))
          else
            (portolanref19_loc x7 x13).bind fun x14 =>
            (portolanref19_Code x14).bind fun x15 =>
            (portolanref01_List [x15]).bind fun x16 =>
            (appL 1 x11 x16).bind fun x17 =>
            some (.next x17)
def portolanref19_Encode.b2 (a0 : Text) : Nat → (List Int) → Option (LR ((List Int)) (List Int × Int))
  | i2, x5 =>
    (ixL a0.Code (i2 : Int)).bind fun x7 =>
    (portolanref01_List [x7.Op]).bind fun x8 =>
    (appL 1 x5 x8).bind fun x9 =>
    (portolanref19_Parts x7.Op).bind fun x10 =>
    aft (forN (ByteArray.size x10.1 : Int) (portolanref19_Encode.b3 x7 x10) x9) (fun s => portolanref19_Encode.k3 s) (fun r => some (.ret r))
def portolanref19_Encode.k1 (a0 : Text) (x3 : List Int) : Option (List Int × Int) :=
  aft (forN (List.length a0.Code : Int) (portolanref19_Encode.b2 a0) x3) (fun s => portolanref19_Encode.k2 s) (fun r => some r)
def portolanref19_Encode.j1 (a0 : Text) (x3 : List Int) (i1 : Nat) (x33 : Int) : Option (LR (List Int) (List Int × Int)) :=
  (ixL a0.Slots (i1 : Int)).bind fun x34 =>
  (portolanref01_Put x3 x34).bind fun x35 =>
  (ixL a0.Starts (i1 : Int)).bind fun x36 =>
  (portolanref01_Put x35 (w64 (x33 - x36))).bind fun x37 =>
  some (.next x37)
def portolanref19_Encode.b1 (a0 : Text) : Nat → (List Int) → Option (LR ((List Int)) (List Int × Int))
  | i1, x3 =>
    if decide (w64 ((i1 : Int) + 1) < (List.length a0.Starts : Int)) then
      (ixL a0.Starts (w64 ((i1 : Int) + 1))).bind fun x38 =>
      portolanref19_Encode.j1 a0 x3 i1 x38
    else
      portolanref19_Encode.j1 a0 x3 i1 (List.length a0.Code : Int)
def portolanref19_Encode (a0 : Text) : Option (List Int × Int) :=
  (portolanref19_Right a0).bind fun x1 =>
  if x1 then
    (portolanref01_Put [] (List.length a0.Starts : Int)).bind fun x2 =>
    aft (forN (List.length a0.Starts : Int) (portolanref19_Encode.b1 a0) x2) (fun s => portolanref19_Encode.k1 a0 s) (fun r => some r)
  else
    some ([], 1)
end Go.Pf
end
section
namespace Go.Pf
open Go.Pp
def portolanref19_In.k1  : Option (Int) :=
  some (-1)
def portolanref19_In.b1 (a0 : Text) (a1 : Int) : Int → Option (LR (Int) (Int))
  | x1 =>
    if decide (0 ≤ x1) then
      (ixL a0.Starts x1).bind fun x2 =>
      if decide (x2 ≤ a1) then
        if decide (a1 < (List.length a0.Code : Int)) then
          some (.ret x1)
        else
          some (.next (w64 (x1 - 1)))
      else
        some (.next (w64 (x1 - 1)))
    else
      some (.brk x1)
def portolanref19_In (a0 : Text) (a1 : Int) : Option (Int) :=
  aft (whileF (portolanref19_In.b1 a0 a1) 18446744073709551616 (w64 ((List.length a0.Starts : Int) - 1))) (fun s => portolanref19_In.k1) (fun r => some r)
end Go.Pf
end
section
namespace Go.Pf
open Go.Pp
def portolanlaw19_TextEncodes.j1 (a0 : Text) (a2 : Int) (x3 : List Int × Int) (x8 : Bool) : Option (Bool) :=
  if x8 then
    some false
  else
    if (x3.2 != 0) then
      some true
    else
      (text_In a0 a2).bind fun x9 =>
      (portolanref19_In a0 a2).bind fun x10 =>
      some (x9 == x10)
def portolanlaw19_TextEncodes (a0 : Text) (a1 : Int) (a2 : Int) : Option (Bool) :=
  (portolanlaw19_alive).bind fun x1 =>
  if x1 then
    (portolanref19_Great a0).bind fun x2 =>
    if x2 then
      some true
    else
      (text_Encode a0).bind fun x3 =>
      (portolanref19_Encode a0).bind fun x4 =>
      (text_Parts a1).bind fun x5 =>
      (portolanref19_Parts a1).bind fun x6 =>
      (portolanref01_Same x3.1 x4.1).bind fun x11 =>
      if x11 then
        if (x3.2 != x4.2) then
          portolanlaw19_TextEncodes.j1 a0 a2 x3 true
        else
          if ByteArray.toList x5.1 == ByteArray.toList x6.1 then
            if x5.2 == x6.2 then
              (text_Right a0).bind fun x12 =>
              (portolanref19_Right a0).bind fun x13 =>
              portolanlaw19_TextEncodes.j1 a0 a2 x3 (!(x12 == x13))
            else
              portolanlaw19_TextEncodes.j1 a0 a2 x3 true
          else
            portolanlaw19_TextEncodes.j1 a0 a2 x3 true
      else
        portolanlaw19_TextEncodes.j1 a0 a2 x3 true
  else
    some false
end Go.Pf
end
section
namespace Go.Pf
open Go.Pp
def portolanref01_read.k1 (a0 : List Int) (a1 : Int) : Option (Int × Int × Int) :=
  if ((List.length a0 : Int) == a1) then
    some (0, 0, 3)
  else
    some (0, 0, 2)
def portolanref01_read.j2 (x1 : Int) (x3 : Int) (x6 : Bool) (i1 : Nat) : Option (LR (Int) (Int × Int × Int)) :=
  if x6 then
    some (.ret (0, 0, 4))
  else
    some (.ret (u64 (x1 + (u64 (shlE (u64 (Int.tmod x3 128)) (u64 (w64 (7 * (i1 : Int)))) 64))), w64 ((i1 : Int) + 1), 0))
def portolanref01_read.j1 (a0 : List Int) (x1 : Int) (i1 : Nat) : Option (LR (Int) (Int × Int × Int)) :=
  (ixL a0 (i1 : Int)).bind fun x3 =>
  (chkB (decide (¬ (u64 (w64 (7 * (i1 : Int)))) < 0)) ()).bind fun x4 =>
  if decide (x3 < 128) then
    if (x3 == 0) then
      portolanref01_read.j2 x1 x3 (decide (0 < (i1 : Int))) i1
    else
      portolanref01_read.j2 x1 x3 false i1
  else
    some (.next (u64 (x1 + (u64 (shlE (u64 (Int.tmod x3 128)) (u64 (w64 (7 * (i1 : Int)))) 64)))))
def portolanref01_read.b1 (a0 : List Int) (a1 : Int) : Nat → Int → Option (LR (Int) (Int × Int × Int))
  | i1, x1 =>
    if ((i1 : Int) == a1) then
      some (.ret (0, 0, 3))
    else
      if ((i1 : Int) == 9) then
        (ixL a0 (i1 : Int)).bind fun x7 =>
        if decide (1 < Int.tmod x7 128) then
          some (.ret (0, 0, 3))
        else
          portolanref01_read.j1 a0 x1 i1
      else
        portolanref01_read.j1 a0 x1 i1
def portolanref01_read (a0 : List Int) (a1 : Int) : Option (Int × Int × Int) :=
  aft (forN (List.length a0 : Int) (portolanref01_read.b1 a0 a1) 0) (fun s => portolanref01_read.k1 a0 a1) (fun r => some r)
end Go.Pf
end
section
namespace Go.Pf
open Go.Pp
def portolanref01_Get (a0 : List Int) : Option (Int × Int × Int) :=
  (portolanref01_read a0 9).bind fun x1 =>
  some (w64 x1.1, x1.2.1, x1.2.2)
end Go.Pf
end
section
namespace Go.Pf
open Go.Pp
def portolanref01_GetSigned (a0 : List Int) : Option (Int × Int × Int) :=
  (portolanref01_read a0 10).bind fun x1 =>
  if (Int.tmod x1.1 2 == 1) then
    some (w64 ((w64 (0 - (w64 (u64 (Int.tdiv x1.1 2))))) - 1), x1.2.1, x1.2.2)
  else
    some (w64 (u64 (Int.tdiv x1.1 2)), x1.2.1, x1.2.2)
end Go.Pf
end
section
namespace Go.Pf
open Go.Pp
def portolanref19_reader_num.j2 (a0 : portolanref19_reader) (x3 : Int) (x5 : Int) (x10 : Int) : Option (portolanref19_reader × Int) :=
  if (x10 != 0) then
    some (portolanref19_reader.mk a0.b x10, 0)
  else
    (tailL a0.b x5).bind fun x11 =>
    some (portolanref19_reader.mk x11 a0.err, x3)
def portolanref19_reader_num.j1 (a0 : portolanref19_reader) (a2 : Int) (a3 : Int) (x3 : Int) (x5 : Int) (x7 : Int) : Option (portolanref19_reader × Int) :=
  if (x7 == 0) then
    if decide (x3 < a2) then
      portolanref19_reader_num.j2 a0 x3 x5 5
    else
      if decide (a3 < x3) then
        portolanref19_reader_num.j2 a0 x3 x5 5
      else
        portolanref19_reader_num.j2 a0 x3 x5 x7
  else
    portolanref19_reader_num.j2 a0 x3 x5 x7
def portolanref19_reader_num (a0 : portolanref19_reader) (a1 : Bool) (a2 : Int) (a3 : Int) : Option (portolanref19_reader × Int) :=
  if (a0.err != 0) then
    some (a0, 0)
  else
    (portolanref01_Get a0.b).bind fun x1 =>
    if a1 then
      (portolanref01_GetSigned a0.b).bind fun x12 =>
      portolanref19_reader_num.j1 a0 a2 a3 x12.1 x12.2.1 x12.2.2
    else
      portolanref19_reader_num.j1 a0 a2 a3 x1.1 x1.2.1 x1.2.2
end Go.Pf
end
section
namespace Go.Pf
open Go.Pp
def portolanref19_Uncode.j1 (a0 : Int) : Option (Loc × Bool) :=
  if (Int.tmod a0 2 == 1) then
    some (Loc.mk 1 (w64 (Int.tdiv a0 2)), true)
  else
    some (Loc.mk 2 (w64 ((w64 (Int.tdiv a0 2)) - 1)), true)
def portolanref19_Uncode (a0 : Int) : Option (Loc × Bool) :=
  if decide (a0 ≤ 0) then
    some (Loc.mk 0 0, false)
  else
    if (Int.tmod a0 2 == 1) then
      if decide (31 < w64 (Int.tdiv a0 2)) then
        some (Loc.mk 0 0, false)
      else
        portolanref19_Uncode.j1 a0
    else
      portolanref19_Uncode.j1 a0
end Go.Pf
end
section
namespace Go.Pf
open Go.Pp
def portolanref19_reader_loc (a0 : portolanref19_reader) : Option (portolanref19_reader × Loc) :=
  (portolanref19_reader_num a0 false 0 9223372036854775807).bind fun x1 =>
  if (x1.1.err != 0) then
    some (x1.1, Loc.mk 0 0)
  else
    (portolanref19_Uncode x1.2).bind fun x2 =>
    if x2.2 then
      some (x1.1, x2.1)
    else
      some (portolanref19_reader.mk x1.1.b 5, x2.1)
end Go.Pf
end
section
namespace Go.Pf
open Go.Pp
def portolanref19_reader_ins.k1 (x1 : portolanref19_reader × Int) (x4 : List Loc) (x5 : Int) (x6 : Int) (x7 : Int) (x8 : Int) (x9 : Int) (x10 : Int) (x11 : Int) (x12 : Int) (x13 : Int) (x14 : Int) (x15 : List Int) (x16 : Int) : Option (portolanref19_reader × Mins) :=
  some (portolanref19_reader.mk x15 x16, Mins.mk x1.2 (Loc.mk x5 x6) (Loc.mk x7 x8) (Loc.mk x9 x10) (Loc.mk x11 x12) x13 x14 x4)
def portolanref19_reader_ins.k2 (x5 : Int) (x6 : Int) (x7 : Int) (x8 : Int) (x9 : Int) (x10 : Int) (x11 : Int) (x12 : Int) (x13 : Int) (x14 : Int) (x20 : List Loc) (x21 : List Int) (x22 : Int) : Option (LR (List Loc × Int × Int × Int × Int × Int × Int × Int × Int × Int × Int × List Int × Int) (portolanref19_reader × Mins)) :=
  some (.next (x20, x5, x6, x7, x8, x9, x10, x11, x12, x13, x14, x21, x22))
def portolanref19_reader_ins.b2  : ((List Loc) × (List Int) × Int × Int) → Option (LR ((List Loc) × (List Int) × Int × Int) (portolanref19_reader × Mins))
  | (x20, x21, x22, x23) =>
    if decide (0 < x23) then
      (portolanref19_reader_loc (portolanref19_reader.mk x21 x22)).bind fun x24 =>
      (appL 16 x20 [x24.2]).bind fun x25 =>
      some (.next (x25, x24.1.b, x24.1.err, w64 (x23 - 1)))
    else
      some (.brk (x20, x21, x22, x23))
def portolanref19_reader_ins.b1 (x2 : ByteArray × Bool) : Nat → ((List Loc) × Int × Int × Int × Int × Int × Int × Int × Int × Int × Int × (List Int) × Int) → Option (LR ((List Loc) × Int × Int × Int × Int × Int × Int × Int × Int × Int × Int × (List Int) × Int) (portolanref19_reader × Mins))
  | i1, (x4, x5, x6, x7, x8, x9, x10, x11, x12, x13, x14, x15, x16) =>
    if (x16 == 0) then
      (ixS x2.1 (i1 : Int)).bind fun x18 =>
      if (x18 == 68) then
        (portolanref19_reader_loc (portolanref19_reader.mk x15 x16)).bind fun x32 =>
        some (.next (x4, x32.2.Kind, x32.2.N, x7, x8, x9, x10, x11, x12, x13, x14, x32.1.b, x32.1.err))
      else
        if (x18 == 65) then
          (portolanref19_reader_loc (portolanref19_reader.mk x15 x16)).bind fun x31 =>
          some (.next (x4, x5, x6, x31.2.Kind, x31.2.N, x9, x10, x11, x12, x13, x14, x31.1.b, x31.1.err))
        else
          if (x18 == 66) then
            (portolanref19_reader_loc (portolanref19_reader.mk x15 x16)).bind fun x30 =>
            some (.next (x4, x5, x6, x7, x8, x30.2.Kind, x30.2.N, x11, x12, x13, x14, x30.1.b, x30.1.err))
          else
            if (x18 == 67) then
              (portolanref19_reader_loc (portolanref19_reader.mk x15 x16)).bind fun x29 =>
              some (.next (x4, x5, x6, x7, x8, x9, x10, x29.2.Kind, x29.2.N, x13, x14, x29.1.b, x29.1.err))
            else
              if (x18 == 78) then
                (portolanref19_reader_num (portolanref19_reader.mk x15 x16) false 0 9223372036854775807).bind fun x28 =>
                some (.next (x4, x5, x6, x7, x8, x9, x10, x11, x12, x28.2, x14, x28.1.b, x28.1.err))
              else
                if (x18 == 77) then
                  (portolanref19_reader_num (portolanref19_reader.mk x15 x16) false 0 9223372036854775807).bind fun x27 =>
                  some (.next (x4, x5, x6, x7, x8, x9, x10, x11, x12, x13, x27.2, x27.1.b, x27.1.err))
                else
                  if (x18 == 110) then
                    (portolanref19_reader_num (portolanref19_reader.mk x15 x16) true (-9223372036854775808) 9223372036854775807).bind fun x26 =>
                    some (.next (x4, x5, x6, x7, x8, x9, x10, x11, x12, x26.2, x14, x26.1.b, x26.1.err))
                  else
                    if (x18 == 76) then
                      (portolanref19_reader_num (portolanref19_reader.mk x15 x16) false 0 4).bind fun x19 =>
                      aft (whileF portolanref19_reader_ins.b2 18446744073709551616 (x4, x19.1.b, x19.1.err, x19.2)) (fun s => portolanref19_reader_ins.k2 x5 x6 x7 x8 x9 x10 x11 x12 x13 x14 s.1 s.2.1 s.2.2.1) (fun r => some (.ret r))
                    else
                      some (.next (x4, x5, x6, x7, x8, x9, x10, x11, x12, x13, x14, x15, x16))
    else
      some (.brk (x4, x5, x6, x7, x8, x9, x10, x11, x12, x13, x14, x15, x16))
def portolanref19_reader_ins.j1 (x1 : portolanref19_reader × Int) (x2 : ByteArray × Bool) (x3 : Int) : Option (portolanref19_reader × Mins) :=
  aft (forN (ByteArray.size x2.1 : Int) (portolanref19_reader_ins.b1 x2) ([], 0, 0, 0, 0, 0, 0, 0, 0, 0, 0, x1.1.b, x3)) (fun s => portolanref19_reader_ins.k1 x1 s.1 s.2.1 s.2.2.1 s.2.2.2.1 s.2.2.2.2.1 s.2.2.2.2.2.1 s.2.2.2.2.2.2.1 s.2.2.2.2.2.2.2.1 s.2.2.2.2.2.2.2.2.1 s.2.2.2.2.2.2.2.2.2.1 s.2.2.2.2.2.2.2.2.2.2.1 s.2.2.2.2.2.2.2.2.2.2.2.1 s.2.2.2.2.2.2.2.2.2.2.2.2) (fun r => some r)
def portolanref19_reader_ins (a0 : portolanref19_reader) : Option (portolanref19_reader × Mins) :=
  (portolanref19_reader_num a0 false 0 9223372036854775807).bind fun x1 =>
  (portolanref19_Parts x1.2).bind fun x2 =>
  if (x1.1.err == 0) then
    if x2.2 then
      portolanref19_reader_ins.j1 x1 x2 x1.1.err
    else
      portolanref19_reader_ins.j1 x1 x2 5
  else
    portolanref19_reader_ins.j1 x1 x2 x1.1.err
end Go.Pf
end
section
namespace Go.Pf
open Go.Pp
def portolanref19_Decode.j1 (x2 : List Int) (x3 : List Int) (x8 : List Mins) (x12 : Int) : Option (Text × Int) :=
  if (x12 != 0) then
    some (Text.mk [] [] [], x12)
  else
    some (Text.mk x8 x2 x3, 0)
def portolanref19_Decode.k2 (x2 : List Int) (x3 : List Int) (x8 : List Mins) (x9 : List Int) (x10 : Int) : Option (Text × Int) :=
  if (x10 == 0) then
    if decide (0 < (List.length x9 : Int)) then
      portolanref19_Decode.j1 x2 x3 x8 5
    else
      (portolanref19_Right (Text.mk x8 x2 x3)).bind fun x13 =>
      if x13 then
        portolanref19_Decode.j1 x2 x3 x8 x10
      else
        portolanref19_Decode.j1 x2 x3 x8 5
  else
    portolanref19_Decode.j1 x2 x3 x8 x10
def portolanref19_Decode.b2  : Nat → ((List Mins) × (List Int) × Int) → Option (LR ((List Mins) × (List Int) × Int) (Text × Int))
  | i2, (x8, x9, x10) =>
    if (x10 == 0) then
      (portolanref19_reader_ins (portolanref19_reader.mk x9 x10)).bind fun x14 =>
      (appL 112 x8 [x14.2]).bind fun x15 =>
      some (.next (x15, x14.1.b, x14.1.err))
    else
      some (.brk (x8, x9, x10))
def portolanref19_Decode.k1 (x2 : List Int) (x3 : List Int) (x4 : List Int) (x5 : Int) (x6 : Int) : Option (Text × Int) :=
  aft (forN x6 portolanref19_Decode.b2 ([], x4, x5)) (fun s => portolanref19_Decode.k2 x2 x3 s.1 s.2.1 s.2.2) (fun r => some r)
def portolanref19_Decode.j2 (x2 : List Int) (x3 : List Int) (x4 : List Int) (x5 : Int) (x6 : Int) (x7 : Int) (x17 : Bool) : Option (LR (List Int × List Int × List Int × Int × Int × Int) (Text × Int)) :=
  if x17 then
    (appL 8 x2 [x6]).bind fun x18 =>
    (portolanref19_reader_num (portolanref19_reader.mk x4 x5) false 0 9223372036854775807).bind fun x19 =>
    (appL 8 x3 [x19.2]).bind fun x20 =>
    (portolanref19_reader_num x19.1 false 1 (w64 (8000 - x6))).bind fun x21 =>
    some (.next (x18, x20, x21.1.b, x21.1.err, w64 (x6 + x21.2), w64 (x7 - 1)))
  else
    some (.brk (x2, x3, x4, x5, x6, x7))
def portolanref19_Decode.b1  : ((List Int) × (List Int) × (List Int) × Int × Int × Int) → Option (LR ((List Int) × (List Int) × (List Int) × Int × Int × Int) (Text × Int))
  | (x2, x3, x4, x5, x6, x7) =>
    if decide (0 < x7) then
      portolanref19_Decode.j2 x2 x3 x4 x5 x6 x7 (x5 == 0)
    else
      portolanref19_Decode.j2 x2 x3 x4 x5 x6 x7 false
def portolanref19_Decode (a0 : List Int) : Option (Text × Int) :=
  (portolanref19_reader_num (portolanref19_reader.mk a0 0) false 1 8).bind fun x1 =>
  aft (whileF portolanref19_Decode.b1 18446744073709551616 ([], [], x1.1.b, x1.1.err, 0, x1.2)) (fun s => portolanref19_Decode.k1 s.1 s.2.1 s.2.2.1 s.2.2.2.1 s.2.2.2.2.1) (fun r => some r)
end Go.Pf
end
section
namespace Go.Pf
open Go.Pp
def portolanlaw19_TextDecodes (a0 : List Int) : Option (Bool) :=
  (portolanlaw19_alive).bind fun x1 =>
  if x1 then
    if decide (5000 < (List.length a0 : Int)) then
      some true
    else
      (text_Decode a0).bind fun x2 =>
      (portolanref19_Decode a0).bind fun x3 =>
      (portolanref19_Same x2.1 x3.1).bind fun x4 =>
      if x4 then
        some (x2.2 == x3.2)
      else
        some false
  else
    some false
end Go.Pf
end
section
namespace Go.Pf
open Go.Pp
def portolanlaw19_TextBack.j2 (a1 : List Int) : Option (Bool) :=
  (text_Decode a1).bind fun x5 =>
  if (x5.2 != 0) then
    some ((List.length x5.1.Code : Int) == 0)
  else
    (text_Encode x5.1).bind fun x6 =>
    if (x6.2 == 0) then
      (portolanref01_Same x6.1 a1).bind fun x7 =>
      some x7
    else
      some false
def portolanlaw19_TextBack.j1 (a0 : Text) (a1 : List Int) (x3 : Bool) : Option (Bool) :=
  if x3 then
    some true
  else
    (text_Encode a0).bind fun x4 =>
    if (x4.2 == 0) then
      (text_Decode x4.1).bind fun x8 =>
      if (x8.2 != 0) then
        some false
      else
        (portolanref19_Same a0 x8.1).bind fun x9 =>
        if x9 then
          portolanlaw19_TextBack.j2 a1
        else
          some false
    else
      portolanlaw19_TextBack.j2 a1
def portolanlaw19_TextBack (a0 : Text) (a1 : List Int) : Option (Bool) :=
  (portolanlaw19_alive).bind fun x1 =>
  if x1 then
    (portolanref19_Great a0).bind fun x10 =>
    if x10 then
      portolanlaw19_TextBack.j1 a0 a1 true
    else
      portolanlaw19_TextBack.j1 a0 a1 (decide (5000 < (List.length a1 : Int)))
  else
    some false
end Go.Pf
end
section
namespace Go.Pf
open Go.Pp
def portolanlaw19_TextOnce.j2 (a0 : Text) (a1 : Text) (a2 : Int) (x4 : List Int × Int) (x5 : List Int × Int) (x7 : Bool) : Option (Bool) :=
  if x7 then
    some true
  else
    (chkB (decide (¬ (List.length x4.1 : Int) = 0)) ()).bind fun x8 =>
    (headL x4.1 (Int.tmod (w64 a2) (List.length x4.1 : Int))).bind fun x9 =>
    (text_Decode x9).bind fun x10 =>
    (appL 1 [] x4.1).bind fun x11 =>
    (appL 1 x11 [1]).bind fun x12 =>
    (text_Decode x12).bind fun x13 =>
    (portolanref01_Same x4.1 x5.1).bind fun x14 =>
    (portolanref19_Same a0 a1).bind fun x15 =>
    if (x14 == x15) then
      if (x10.2 == 2) then
        some (x13.2 == 5)
      else
        some false
    else
      some false
def portolanlaw19_TextOnce.j1 (a0 : Text) (a1 : Text) (a2 : Int) (x3 : Bool) : Option (Bool) :=
  if x3 then
    some true
  else
    (text_Encode a0).bind fun x4 =>
    (text_Encode a1).bind fun x5 =>
    if (x4.2 != 0) then
      portolanlaw19_TextOnce.j2 a0 a1 a2 x4 x5 true
    else
      portolanlaw19_TextOnce.j2 a0 a1 a2 x4 x5 (x5.2 != 0)
def portolanlaw19_TextOnce (a0 : Text) (a1 : Text) (a2 : Int) : Option (Bool) :=
  (portolanlaw19_alive).bind fun x1 =>
  if x1 then
    (portolanref19_Great a0).bind fun x16 =>
    if x16 then
      portolanlaw19_TextOnce.j1 a0 a1 a2 true
    else
      (portolanref19_Great a1).bind fun x17 =>
      portolanlaw19_TextOnce.j1 a0 a1 a2 x17
  else
    some false
end Go.Pf
end
section
namespace Go.Pf
open Go.Pp
def portolanlaw19_TextIn.j2 (a0 : Text) (a1 : Int) (x4 : Int) (x6 : Bool) : Option (Bool) :=
  if x6 then
    some (x4 == (-1))
  else
    if decide (0 ≤ x4) then
      if decide (x4 < (List.length a0.Starts : Int)) then
        (ixL a0.Starts x4).bind fun x7 =>
        if decide (x7 ≤ a1) then
          if (w64 (x4 + 1) == (List.length a0.Starts : Int)) then
            some true
          else
            (ixL a0.Starts (w64 (x4 + 1))).bind fun x8 =>
            some (decide (a1 < x8))
        else
          some false
      else
        some false
    else
      some false
def portolanlaw19_TextIn.j1 (a0 : Text) (a1 : Int) (x3 : Bool) : Option (Bool) :=
  if x3 then
    some true
  else
    (text_In a0 a1).bind fun x4 =>
    if decide (a1 < 0) then
      portolanlaw19_TextIn.j2 a0 a1 x4 true
    else
      portolanlaw19_TextIn.j2 a0 a1 x4 (decide ((List.length a0.Code : Int) ≤ a1))
def portolanlaw19_TextIn (a0 : Text) (a1 : Int) : Option (Bool) :=
  (portolanlaw19_alive).bind fun x1 =>
  if x1 then
    (portolanref19_Great a0).bind fun x9 =>
    if x9 then
      portolanlaw19_TextIn.j1 a0 a1 true
    else
      (text_Right a0).bind fun x10 =>
      portolanlaw19_TextIn.j1 a0 a1 (!x10)
  else
    some false
end Go.Pf
end
