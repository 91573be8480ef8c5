/- A machine that carries out the translated code on data, and why it is right, part 2 -/
import Derived.Calls
import Derived.Orders
import Derived.Test.YtmceiidhhpcjkaaDoorA1
set_option linter.all false
section
/- The abstract evaluator's definitions: values, objects, operations. -/
namespace Go.Ab
open Go

inductive Tr where
  | lit (v : Value)
  | sl (k : Nat) (full : Bool) (es : List (List Tr))
  deriving Inhabited

inductive V where
  | tr (t : Tr)
  | agg (cs : List V)
  | ref (o off : Nat)
  | row (o ver off len : Nat)
  | sub (k : Nat) (v : V) (lo n : Nat) (full : Bool)
  | el (k : Nat) (v : V) (i off : Nat)
  | glob (g off : Nat)
  | fn (f : FuncId) (first caps : List V)
  | tup (vs : List V)
  | mp (o : Nat)
  | junk
  deriving Inhabited

inductive O where
  | box (cs : List V)
  | row (k ver : Nat) (es : List (List Tr))
  | iter (s : ByteArray) (pos : Nat)
  | mp (ks : List Int) (vs : List V)
  | mit (o n : Nat) (seen : List Nat)
  deriving Inhabited

abbrev OT := List (Option O)

structure E where
  slots : List V
  ob : OT

structure TI where
  d : TypeDesc
  size : Nat
  bytes : Nat
  zero : Value
  eq : Bool := false

abbrev TT := Nat → Option TI
abbrev GT := Nat → Option (List Value)

def aggD : TypeDesc → Bool
  | .struct _ => true
  | .array _ _ => true
  | _ => false

def getO (ob : OT) (i : Nat) : Option O := (ob[i]?).getD none

abbrev vlit (v : Value) : V := .tr (.lit v)
abbrev vint (k : IntKind) (n : Int) : V := .tr (.lit (.int k n))
abbrev vbool (b : Bool) : V := .tr (.lit (.bool b))
abbrev vstr (s : ByteArray) : V := .tr (.lit (.string s))

def oneV : Value → Bool
  | .agg _ => false
  | .tuple _ => false
  | _ => true
def constT : Value → Tr
  | .slice none 0 0 => .sl 0 true []
  | v => .lit v
def constC (v : Value) : V := if oneV v then .tr (constT v) else .junk
def constV : Value → V
  | .agg cs => .agg (cs.toList.map constC)
  | v => constC v

def V.cells : V → List V
  | .agg cs => cs
  | v => [v]

def rdS (ob : Nat → Option O) : V → Option (Nat × List (List Tr))
  | .tr (.sl k _ es) => some (k, es)
  | .row o ver off len =>
    match ob o with
    | some (.row k v es) => if v = ver ∧ off + len ≤ es.length then some (k, (es.drop off).take len) else none
    | _ => none
  | .sub k' v lo n _ =>
    match rdS ob v with
    | some (k, es) => if lo + n ≤ es.length ∧ (k' = k ∨ es.length = 0) then some (k, (es.drop lo).take n) else none
    | none => none
  | _ => none

def rdK (ob : Nat → Option O) (k : Nat) (v : V) : Option (List (List Tr)) :=
  match rdS ob v with
  | some (k', es) => if k' = k ∨ es.length = 0 then some es else none
  | none => none
def isS (ob : Nat → Option O) (v : V) : Bool := (rdS ob v).isSome

def asRow : V → Option (Nat × Nat × Nat × Nat)
  | .row o ver off len => some (o, ver, off, len)
  | .sub _ v lo n _ =>
    match asRow v with
    | some (o, ver, off, _) => some (o, ver, off + lo, n)
    | none => none
  | _ => none

def isFull : V → Bool
  | .tr (.sl _ f _) => f
  | .sub _ _ _ _ f => f
  | _ => false

def oneC (ob : Nat → Option O) (v : V) : Bool := isS ob v || match v with
  | .tr _ => true
  | .ref .. => true
  | .el .. => true
  | .glob .. => true
  | .fn .. => true
  | _ => false

def toTr (ob : Nat → Option O) (v : V) : Option (Tr × List (Nat × Option O)) :=
  match v with
  | .tr t => some (t, [])
  | .row o ver off len =>
    match rdS ob (.row o ver off len) with
    | some (k, es) => some (.sl k false es, [(o, none)])
    | none => none
  | _ => none

def toTrs (ob : Nat → Option O) : List V → Option (List Tr × List (Nat × Option O))
  | [] => some ([], [])
  | v :: r =>
    match toTr ob v with
    | some (t, k) =>
      match toTrs ob r with
      | some (ts, ks) => some (t :: ts, k ++ ks)
      | none => none
    | none => none

def cellsAt (γ : GT) (ob : Nat → Option O) (n : Nat) : V → Option (List V)
  | .ref o off =>
    match ob o with
    | some (.box cs) => if off + n ≤ cs.length then some ((cs.drop off).take n) else none
    | _ => none
  | .el k v i off =>
    match rdK ob k v with
    | some es =>
      match es[i]? with
      | some e => if off + n ≤ e.length then some (((e.drop off).take n).map .tr) else none
      | none => none
    | none => none
  | .glob g off =>
    match γ g with
    | some vs => if off + n ≤ vs.length then some (((vs.drop off).take n).map constC) else none
    | none => none
  | _ => none

def mkV (ag : Bool) (cs : List V) : Option V :=
  if ag then some (.agg cs) else match cs with | [c] => some c | _ => none

abbrev K3 := V × List (Nat × Option O) × Option O

def opLoad (τ : TT) (γ : GT) (ob : Nat → Option O) (T : TypeId) (a : V) : Option K3 :=
  match τ T with
  | some i =>
    match cellsAt γ ob i.size a with
    | some cs =>
      match mkV (aggD i.d) cs with
      | some v => some (v, [], none)
      | none => none
    | none => none
  | none => none

def splice {α : Type} (bs : List α) (off : Nat) (cs : List α) : List α := bs.take off ++ (cs ++ bs.drop (off + cs.length))

def wkT : Tr → Tr
  | .sl 0 _ [] => .sl 1 false []
  | t => t
def opStore (τ : TT) (ob : Nat → Option O) (T : TypeId) (a v : V) : Option K3 :=
  match τ T with
  | some i =>
    if v.cells.length = i.size then
      if v.cells.all (oneC ob) then
        match a with
        | .ref o off =>
          match ob o with
          | some (.box cs) => if off + i.size ≤ cs.length then some (.tup [], [(o, some (.box (splice cs off v.cells)))], none) else none
          | _ => none
        | .el k s j off =>
          match asRow s with
          | some (o, ver, base, len) =>
            match ob o with
            | some (.row k' v' es) =>
              if k' = k ∧ v' = ver ∧ j < len ∧ isS ob s = true then
                match es[base + j]? with
                | some e =>
                  if off + i.size ≤ e.length then
                    match toTrs ob v.cells with
                    | some (ts, []) => some (.tup [], [(o, some (.row k' v' (es.set (base + j) (splice e off (ts.map wkT)))))], none)
                    | _ => none
                  else none
                | none => none
              else none
            | _ => none
          | none => none
        | _ => none
      else none
    else none
  | none => none

def zeroC (i : TI) : List V := i.zero.cells.toList.map constC
def zeroT (i : TI) : List Tr := i.zero.cells.toList.map constT
def zeroTw (i : TI) : List Tr := (zeroT i).map wkT

def fillV (ob : Nat → Option O) (place : Nat → Option (Nat × Nat)) : List (Nat × V) → List V → Option (List V)
  | [], cs => some cs
  | (j, v) :: r, cs =>
    match place j with
    | some (off, size) => if v.cells.length = size ∧ off + size ≤ cs.length ∧ v.cells.all (oneC ob) = true then fillV ob place r (splice cs off v.cells) else none
    | none => none

def placeS (τ : TT) (fs : Array Field) (j : Nat) : Option (Nat × Nat) :=
  match fs[j]? with
  | some f => match τ f.type with | some i => some (f.offset, i.size) | none => none
  | none => none

def opBuild (τ : TT) (ob : Nat → Option O) (T : TypeId) (parts : List (Nat × V)) : Option K3 :=
  match τ T with
  | some i =>
    match i.d with
    | .struct fs => match fillV ob (placeS τ fs) parts (zeroC i) with | some cs => some (.agg cs, [], none) | none => none
    | .array _ e => match τ e with | some ei => (match fillV ob (fun j => some (j * ei.size, ei.size)) parts (zeroC i) with | some cs => some (.agg cs, [], none) | none => none) | none => none
    | _ => none
  | none => none

def fillE (ob : Nat → Option O) (size : Nat) : List (Nat × V) → List (List Tr) → List (Nat × Option O) → Option (List (List Tr) × List (Nat × Option O))
  | [], es, ks => some (es, ks)
  | (j, v) :: r, es, ks =>
    if v.cells.length = size ∧ j < es.length ∧ v.cells.all (oneC ob) = true then
      match toTrs ob v.cells with
      | some (ts, k) => fillE ob size r (es.set j (ts.map wkT)) (ks ++ k)
      | none => none
    else none

def elemT (τ : TT) (T : TypeId) : Option TI :=
  match τ T with
  | some i => match i.d with | .slice e => τ e | _ => none
  | none => none

def opBuildSlice (τ : TT) (ob : Nat → Option O) (nb : Nat) (T : TypeId) (len : Nat) (parts : List (Nat × V)) : Option K3 :=
  match elemT τ T with
  | some i =>
    if len * i.size ≤ 16777216 then
      match fillE ob i.size parts (List.replicate len (zeroT i)) [] with
      | some (es, ks) => some (.row nb 0 0 len, ks, some (.row i.size 0 es))
      | none => none
    else none
  | none => none

def litInt : V → Option (IntKind × Int)
  | .tr (.lit (.int k n)) => some (k, n)
  | _ => none
def litStr : V → Option ByteArray
  | .tr (.lit (.string s)) => some s
  | _ => none

def opMake (τ : TT) (nb : Nat) (T : TypeId) (l c : V) : Option K3 :=
  match elemT τ T, litInt l, litInt c with
  | some i, some (_, l), some (_, c) =>
    if 0 ≤ l ∧ l ≤ c ∧ c * i.bytes ≤ 140737488355328 ∧ 0 < i.bytes then some (.row nb 0 0 l.toNat, [], some (.row i.size 0 (List.replicate l.toNat (zeroTw i)))) else none
  | _, _, _ => none

def bytesE (s : ByteArray) : List (List Tr) := s.data.toList.map fun b => [.lit (.int .u8 b.toNat)]

def srcE (τ : TT) (ob : Nat → Option O) (xT : TypeId) (i : TI) (x : V) : Option (List (List Tr)) :=
  match τ xT with
  | some xi =>
    match xi.d with
    | .int _ => match litInt x with | some (_, n) => if 0 ≤ n ∧ n * i.bytes ≤ 140737488355328 ∧ 0 < i.bytes then some (List.replicate n.toNat (zeroT i)) else none | none => none
    | .string => match litStr x with | some s => if i.size = 1 then some (bytesE s) else none | none => none
    | .slice _ => rdK ob i.size x
    | _ => none
  | none => none

def opAppend (i : TI) (ob : Nat → Option O) (nb : Nat) (s : V) (ys : List (List Tr)) : Option K3 :=
  match rdK ob i.size s with
  | some es =>
    if (es.length + ys.length) * i.bytes ≤ 140737488355328 ∧ 0 < i.bytes then
      if isFull s then
        if ys.length = 0 ∧ es.length ≠ 0 then some (s, [], none)
        else some (.row nb 0 0 (es.length + ys.length), [], some (.row i.size 0 (es ++ ys)))
      else
        match asRow s with
        | some (o, ver, off, len) =>
          match ob o with
          | some (.row k' v' es0) =>
            if v' = ver ∧ off + len = es0.length ∧ k' = i.size then
              some (.row o (ver + 1) 0 (len + ys.length), [(o, some (.row k' (ver + 1) (es ++ ys)))], none)
            else none
          | _ => none
        | none => none
    else none
  | none => none

def bnd (d : Nat) : Option V → Option Nat
  | none => some d
  | some v => match litInt v with | some (_, n) => if 0 ≤ n then some n.toNat else none | none => none

def opSlice0 (τ : TT) (ob : Nat → Option O) (T : TypeId) (x : V) (lo hi mx : Option V) : Option K3 :=
  match τ T with
  | some i =>
    match i.d with
    | .string =>
      match litStr x, mx with
      | some s, none =>
        match bnd 0 lo, bnd s.size hi with
        | some l, some h => if l ≤ h ∧ h ≤ s.size then some (vstr (s.extract l h), [], none) else none
        | _, _ => none
      | _, _ => none
    | .slice e =>
      match τ e with
      | some ei =>
        match rdK ob ei.size x with
        | some es =>
          match bnd 0 lo, bnd es.length hi with
          | some l, some h =>
            if l ≤ h ∧ h ≤ es.length then
              match mx with
              | none => some (.sub ei.size x l (h - l) false, [], none)
              | some m => match bnd 0 (some m), hi with | some m, some _ => if m = h then some (.sub ei.size x l (h - l) true, [], none) else none | _, _ => none
            else none
          | _, _ => none
        | none => none
      | none => none
    | _ => none
  | none => none

def normS : V → V
  | .sub k (.tr (.sl k' f es)) lo n fl => if k' = k ∧ lo + n ≤ es.length then .tr (.sl k fl ((es.drop lo).take n)) else .sub k (.tr (.sl k' f es)) lo n fl
  | v => v
def opSlice (τ : TT) (ob : Nat → Option O) (T : TypeId) (x : V) (lo hi mx : Option V) : Option K3 :=
  match opSlice0 τ ob T x lo hi mx with
  | some (v, u, o) => some (normS v, u, o)
  | none => none

def addOff (d : Nat) : V → Option V
  | .ref o off => some (.ref o (off + d))
  | .el k v i off => some (.el k v i (off + d))
  | .glob g off => some (.glob g (off + d))
  | _ => none

def opFieldAddr (τ : TT) (T : TypeId) (x : V) (f : Nat) : Option K3 :=
  match τ T with
  | some i =>
    match i.d with
    | .struct fs =>
      match fs[f]? with
      | some fl =>
        match τ fl.type with
        | some fi => if fi.size = 0 then none else match addOff fl.offset x with | some v => some (v, [], none) | none => none
        | none => none
      | none => none
    | _ => none
  | none => none

def opField (τ : TT) (T : TypeId) (x : V) (f : Nat) : Option K3 :=
  match τ T with
  | some i =>
    match i.d, x with
    | .struct fs, .agg cs =>
      match fs[f]? with
      | some fl =>
        match τ fl.type with
        | some fi =>
          if fl.offset + fi.size ≤ cs.length then
            match mkV (aggD fi.d) ((cs.drop fl.offset).take fi.size) with
            | some v => some (v, [], none)
            | none => none
          else none
        | none => none
      | none => none
    | _, _ => none
  | none => none

def opIndexAddr (τ : TT) (ob : Nat → Option O) (T : TypeId) (x ix : V) : Option K3 :=
  match τ T, litInt ix with
  | some i, some (_, n) =>
    match i.d with
    | .slice e =>
      match τ e with
      | some ei =>
        match rdK ob ei.size x with
        | some es => if 0 ≤ n ∧ n < es.length then some (.el ei.size x n.toNat 0, [], none) else none
        | none => none
      | none => none
    | .array m e =>
      match τ e with
      | some ei => if 0 ≤ n ∧ n < m then match addOff (n.toNat * ei.size) x with | some v => some (v, [], none) | none => none else none
      | none => none
    | _ => none
  | _, _ => none

def opIndex (τ : TT) (T : TypeId) (x ix : V) : Option K3 :=
  match τ T, litInt ix with
  | some i, some (_, n) =>
    match i.d with
    | .string => match litStr x with | some s => if 0 ≤ n then match s[n.toNat]? with | some b => some (vint .u8 b.toNat, [], none) | none => none else none | none => none
    | .array m e =>
      match τ e, x with
      | some ei, .agg cs =>
        if 0 ≤ n ∧ n < m ∧ (n.toNat + 1) * ei.size ≤ cs.length then
          match mkV (aggD ei.d) ((cs.drop (n.toNat * ei.size)).take ei.size) with | some v => some (v, [], none) | none => none
        else none
      | _, _ => none
    | _ => none
  | _, _ => none

def pv : Sem Value → Option K3
  | .pure v => if oneV v then some (vlit v, [], none) else none
  | _ => none

def eqLit : Value → Value → Option Bool
  | .int k a, .int k' b => if k = k' then some (decide (a = b)) else none
  | .bool a, .bool b => some (a == b)
  | .string a, .string b => some (decide (a = b))
  | _, _ => none

def eqCells : List V → List V → Option Bool
  | [], [] => some true
  | .tr (.lit a) :: r, .tr (.lit b) :: q =>
    match eqLit a b, eqCells r q with
    | some x, some y => some (x && y)
    | _, _ => none
  | _, _ => none

def like : Value → Value → Bool
  | .int k _, .int k' _ => k == k'
  | .bool _, .bool _ => true
  | .string _, .string _ => true
  | _, _ => false
def likeV : List Value → List V → Bool
  | [], [] => true
  | z :: r, .tr (.lit v) :: q => like z v && likeV r q
  | _, _ => false
def likeL : List Value → List Value → Bool
  | [], [] => true
  | z :: r, v :: q => like z v && likeL r q
  | _, _ => false

def opBin (τ : TT) (op : BinOp) (T : TypeId) (x y : V) : Option K3 :=
  match x, y with
  | .tr (.lit (.int k a)), .tr (.lit (.int k' b)) => pv (binOp op T (.int k a) (.int k' b))
  | .tr (.lit (.string a)), .tr (.lit (.string b)) => pv (binOp op T (.string a) (.string b))
  | .tr (.lit (.bool a)), .tr (.lit (.bool b)) =>
    match τ T with
    | some i =>
      match op, i.d with
      | .eql, .bool => some (vbool (a == b), [], none)
      | .neq, .bool => some (vbool (!(a == b)), [], none)
      | _, _ => none
    | none => none
  | .agg cs, .agg ds =>
    match τ T with
    | some i =>
      if i.eq = true ∧ likeV i.zero.cells.toList cs = true ∧ likeV i.zero.cells.toList ds = true then
        match op, eqCells cs ds with
        | .eql, some b => some (vbool b, [], none)
        | .neq, some b => some (vbool (!b), [], none)
        | _, _ => none
      else none
    | none => none
  | _, _ => none

def opUn (op : UnOp) (x : V) : Option K3 :=
  match x with
  | .tr (.lit v) => pv (Op.unary op v)
  | _ => none

def opConv (τ : TT) (S D : TypeId) (x : V) : Option K3 :=
  match τ S, τ D with
  | some si, some i =>
    match si.d, i.d with
    | .int _, .int k => match litInt x with | some (_, n) => pv (Conv.intToInt k n) | none => none
    | .string, .string => match litStr x with | some s => some (vstr s, [], none) | none => none
    | .string, .slice e =>
      match τ e, litStr x with
      | some ei, some s =>
        match ei.d with
        | .int .u8 => if s.size ≤ 140737488355328 ∧ ei.size = 1 then some (.tr (.sl 1 false (bytesE s)), [], none) else none
        | _ => none
      | _, _ => none
    | _, _ => none
  | _, _ => none

def opConv2 (τ : TT) (ob : Nat → Option O) (S D : TypeId) (x : V) : Option K3 :=
  match τ S, τ D with
  | some si, some i =>
    match si.d, i.d with
    | .slice _, .slice e =>
      if S = D then
        match τ e with
        | some ei =>
          match ei.d with
          | .int .u8 =>
            match x with
            | .row o ver off len =>
              match rdS ob (.row o ver off len) with
              | some (k, e0 :: es) => some (.tr (.sl k false (e0 :: es)), [(o, none)], none)
              | _ => none
            | _ => none
          | _ => none
        | none => none
      else none
    | _, _ => opConv τ S D x
  | _, _ => none

def opLen (τ : TT) (ob : Nat → Option O) (T : TypeId) (x : V) : Option K3 :=
  match τ T with
  | some i =>
    match i.d with
    | .string => match litStr x with | some s => some (vint .i64 s.size, [], none) | none => none
    | .slice e =>
      match τ e with
      | some ei =>
        match rdK ob ei.size x with
        | some es => some (vint .i64 es.length, [], none)
        | none => none
      | none => none
    | .array n _ => some (vint .i64 n, [], none)
    | _ => none
  | none => none

def nilOk : V → Option K3
  | .ref o off => some (.ref o off, [], none)
  | .el k v i off => some (.el k v i off, [], none)
  | .glob g off => some (.glob g off, [], none)
  | .fn f a b => some (.fn f a b, [], none)
  | _ => none

def minmax (mx : Bool) (k : IntKind) : Int → List V → Option K3
  | a, [] => some (vint k a, [], none)
  | a, v :: r => match litInt v with | some (k', b) => if k' = k then minmax mx k (if mx then (if b > a then b else a) else (if b < a then b else a)) r else none | none => none

def cpyT (es0 : List (List Tr)) (off : Nat) (ys : List (List Tr)) : List (List Tr) := splice es0 off ys
def opCopy (τ : TT) (ob : Nat → Option O) (dT sT : TypeId) (d s : V) : Option K3 :=
  match elemT τ dT, elemT τ sT with
  | some i, some _ =>
    match rdK ob i.size s, rdK ob i.size d with
    | some ys, some es =>
      match asRow d with
      | some (o, ver, off, len) =>
        match ob o with
        | some (.row k v' es0) =>
          if v' = ver ∧ k = i.size then
            some (vint .i64 (min ys.length es.length : Nat), [(o, some (.row k v' (cpyT es0 off (ys.take es.length))))], none)
          else none
        | _ => none
      | none => none
    | _, _ => none
  | _, _ => none

def opClear (τ : TT) (ob : Nat → Option O) (T : TypeId) (d : V) : Option K3 :=
  match elemT τ T with
  | some i =>
    match rdK ob i.size d with
    | some es =>
      match asRow d with
      | some (o, ver, off, _) =>
        match ob o with
        | some (.row k v' es0) =>
          if v' = ver ∧ k = i.size then
            some (.tup [], [(o, some (.row k v' (splice es0 off (List.replicate es.length (zeroT i)))))], none)
          else none
        | _ => none
      | none => none
    | none => none
  | none => none

def evO (sl : List V) : Operand → V
  | .tmp t => sl.getD t .junk
  | .const v => constV v
  | .global g => .glob g 0
  | .func f => .fn f [] []

def opExtract (v : V) (j : Nat) : Option K3 :=
  match v with
  | .tup vs => match vs[j]? with | some x => some (x, [], none) | none => none
  | _ => none

def opBuiltin (τ : TT) (ob : Nat → Option O) (nb : Nat) (b : Builtin) (ts : List TypeId) (xs : List V) : Option K3 :=
  match b, ts, xs with
  | .len, [t], [x] => opLen τ ob t x
  | .append, [sT, xT], [s, x] =>
    match elemT τ sT with
    | some i => match srcE τ ob xT i x with | some ys => opAppend i ob nb s ys | none => none
    | none => none
  | .copy, [dT, sT], [d, s] => opCopy τ ob dT sT d s
  | .clear, [T], [d] => opClear τ ob T d
  | .max, _, x :: r => match litInt x with | some (k, a) => minmax true k a r | none => none
  | .min, _, x :: r => match litInt x with | some (k, a) => minmax false k a r | none => none
  | _, _, _ => none

def mapT (τ : TT) (T : TypeId) : Option TI :=
  match τ T with
  | some i =>
    match i.d with
    | .map k e =>
      match τ k with
      | some ki => match ki.d with | .int .i64 => τ e | _ => none
      | none => none
    | _ => none
  | none => none
def findK (n : Int) : List Int → Option Nat
  | [] => none
  | k :: r => if n = k then some 0 else (findK n r).map (· + 1)
def litI64 : V → Option Int
  | .tr (.lit (.int .i64 n)) => some n
  | _ => none
def opMakeMap (τ : TT) (nb : Nat) (T : TypeId) : Option K3 :=
  match mapT τ T with
  | some _ => some (.mp nb, [], some (.mp [] []))
  | none => none
def putM (n : Int) (v : V) (ks : List Int) (vs : List V) : O :=
  match findK n ks with
  | some i => .mp ks (vs.set i v)
  | none => .mp (ks ++ [n]) (vs ++ [v])
def wk1c : V → V
  | .tr (.sl 0 _ []) => .tr (.sl 1 false [])
  | v => v
def wk1 : V → V
  | .agg cs => .agg (cs.map wk1c)
  | v => wk1c v
def opMapPut (τ : TT) (ob : Nat → Option O) (T : TypeId) (m k v : V) : Option K3 :=
  match mapT τ T, m, litI64 k with
  | some _, .mp o, some n =>
    match ob o with
    | some (.mp ks vs) => some (.tup [], [(o, some (putM n (wk1 v) ks vs))], none)
    | _ => none
  | _, _, _ => none
def zeroV (i : TI) : V := constV i.zero
def zeroW (i : TI) : V := wk1 (zeroV i)
def getM (z : V) (n : Int) (ks : List Int) (vs : List V) : V × Bool :=
  match findK n ks with
  | some j => (vs.getD j .junk, true)
  | none => (z, false)
def opLookup (τ : TT) (ob : Nat → Option O) (T : TypeId) (m k : V) (ok : Bool) : Option K3 :=
  match mapT τ T, m, litI64 k with
  | some i, .mp o, some n =>
    match ob o with
    | some (.mp ks vs) => some (if ok then .tup [(getM (zeroW i) n ks vs).1, vbool (getM (zeroW i) n ks vs).2] else (getM (zeroW i) n ks vs).1, [], none)
    | _ => none
  | _, _, _ => none
def opRangeM (τ : TT) (ob : Nat → Option O) (nb : Nat) (T : TypeId) (v : V) : Option K3 :=
  match mapT τ T, v with
  | some _, .mp o =>
    match ob o with
    | some (.mp ks _) => some (.ref nb 0, [], some (.mit o ks.length []))
    | _ => none
  | _, _ => none

open Go.Pp (nxP decI)
def nxT (s : ByteArray) (pos : Nat) : List V := if pos < s.size then [vbool true, vint .i64 pos, vint .i32 (decI s pos)] else [vbool false]
def opRange (τ : TT) (nb : Nat) (T : TypeId) (v : V) : Option K3 :=
  match τ T with
  | some i => match i.d with
    | .string => match v with
      | .tr (.lit (.string s)) => some (.ref nb 0, [], some (.iter s 0))
      | _ => none
    | _ => none
  | none => none
def opRangeA (τ : TT) (ob : Nat → Option O) (nb : Nat) (T : TypeId) (v : V) : Option K3 :=
  match v with
  | .mp o => opRangeM τ ob nb T (.mp o)
  | v => opRange τ nb T v
def opNext (ob : Nat → Option O) (v : V) : Option K3 :=
  match v with
  | .ref o 0 => match ob o with
    | some (.iter s pos) => some (.tup (nxT s pos), [(o, some (.iter s (nxP s pos)))], none)
    | _ => none
  | _ => none

def opEntry (ob : Nat → Option O) (v : V) : Option K3 :=
  match v with
  | .ref o 0 =>
    match ob o with
    | some (.mit m c seen) =>
      match ob m, seen.getLast? with
      | some (.mp ks vs), some j =>
        if ks.length = c then
          match ks[j]?, vs[j]? with
          | some k, some v => some (.tup [vint .i64 k, v], [], none)
          | _, _ => none
        else none
      | _, _ => none
    | _ => none
  | _ => none

def step (τ : TT) (γ : GT) (sl : List V) (ob : Nat → Option O) (nb : Nat) : Op → Option K3
  | .move x => some (evO sl x, [], none)
  | .assign x => some (evO sl x, [], none)
  | .pick c a b => match evO sl c with | .tr (.lit (.bool t)) => some (if t then evO sl a else evO sl b, [], none) | _ => none
  | .alloc T => match τ T with | some i => some (.ref nb 0, [], some (.box (zeroC i))) | none => none
  | .box _ x => if (evO sl x).cells.all (oneC ob) then some (.ref nb 0, [], some (.box (evO sl x).cells)) else none
  | .build T ps => opBuild τ ob T (ps.toList.map fun p => (p.1, evO sl p.2))
  | .buildSlice T n ps => opBuildSlice τ ob nb T n (ps.toList.map fun p => (p.1, evO sl p.2))
  | .load T a => opLoad τ γ ob T (evO sl a)
  | .store T a v => opStore τ ob T (evO sl a) (evO sl v)
  | .nilCheck x => nilOk (evO sl x)
  | .binOp op T x y _ => opBin τ op T (evO sl x) (evO sl y)
  | .unOp op _ x => opUn op (evO sl x)
  | .convert S D x => opConv2 τ ob S D (evO sl x)
  | .makeFunc (.func f) fs cs => some (.fn f (fs.toList.map (evO sl)) (cs.toList.map (evO sl)), [], none)
  | .makeSlice T l c => opMake τ nb T (evO sl l) (evO sl c)
  | .slice T x lo hi mx => opSlice τ ob T (evO sl x) (lo.map (evO sl)) (hi.map (evO sl)) (mx.map (evO sl))
  | .fieldAddr T x f => opFieldAddr τ T (evO sl x) f
  | .field T x f => opField τ T (evO sl x) f
  | .indexAddr T x ix => opIndexAddr τ ob T (evO sl x) (evO sl ix)
  | .index T x ix => opIndex τ T (evO sl x) (evO sl ix)
  | .extract t j => opExtract (evO sl t) j
  | .call { callee := .builtin b, args, argTypes } => opBuiltin τ ob nb b argTypes.toList (args.toList.map (evO sl))
  | .range T x => opRangeA τ ob nb T (evO sl x)
  | .makeMap T none => opMakeMap τ nb T
  | .insert T m k v => opMapPut τ ob T (evO sl m) (evO sl k) (evO sl v)
  | .mapUpdate T m k v => opMapPut τ ob T (evO sl m) (evO sl k) (evO sl v)
  | .lookup T x k ok => opLookup τ ob T (evO sl x) (evO sl k) ok
  | .next x true => opNext ob (evO sl x)
  | .entry x => opEntry ob (evO sl x)
  | _ => none

def setSlot (sl : List V) (d : Option Tmp) (v : V) : List V :=
  match d with
  | some d => sl.set d v
  | none => sl

def upds (ob : OT) : List (Nat × Option O) → OT
  | [] => ob
  | (i, x) :: r => upds (ob.set i x) r

def E.app (E : E) (d : Option Tmp) (k : K3) : Ab.E :=
  { slots := setSlot E.slots d k.1, ob := match k.2.2 with | some x => upds E.ob k.2.1 ++ [some x] | none => upds E.ob k.2.1 }

def wnt (all : List Oper) (sl : List V) (o : Oper) : Option Bool :=
  match o.guard with
  | none => some true
  | some (j, b) =>
    match all[j]? with
    | some oj =>
      match oj.dst with
      | some d =>
        match sl[d]? with
        | some (.tr (.lit (.bool x))) => some (x == b)
        | some (.tup []) => some false
        | _ => none
      | none => none
    | none => none

end Go.Ab
end
