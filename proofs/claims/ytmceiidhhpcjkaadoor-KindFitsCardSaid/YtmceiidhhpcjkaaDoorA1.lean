/- A machine that carries out the translated code on data, and why it is right, part 1 -/
import Derived.Lib.SlicesCompact
import GoSem.Core.Utf8
set_option linter.all false
section
/- Plain words: what a Go function comes to, in plain Lean: lists, whole numbers, loops. -/
namespace Go.Pp

inductive LR (S R : Type) where
  | next (s : S)
  | brk (s : S)
  | ret (r : R)

def ixL {α : Type} (l : List α) (i : Int) : Option α := if 0 ≤ i then l[i.toNat]? else none
def appL {α : Type} (b : Nat) (l r : List α) : Option (List α) := if (l.length + r.length) * b ≤ 140737488355328 then some (l ++ r) else none
def updL {α : Type} (l : List α) (i : Int) (x : α) : Option (List α) := if 0 ≤ i ∧ i < l.length then some (l.set i.toNat x) else none
def mkL {α : Type} (b : Nat) (x : α) (l c : Int) : Option (List α) := if 0 ≤ l ∧ l ≤ c ∧ c * b ≤ 140737488355328 then some (List.replicate l.toNat x) else none
def chkB {α : Type} (c : Bool) (x : α) : Option α := if c = true then some x else none
def ixS (s : ByteArray) (i : Int) : Option Int := if 0 ≤ i then (s[i.toNat]?).map (fun b => (b.toNat : Int)) else none
def nxP (s : ByteArray) (pos : Nat) : Nat := if pos < s.size then pos + (Go.Utf8.decode s pos).2 else pos
def decI (s : ByteArray) (pos : Nat) : Int := (Go.Utf8.decode s pos).1
def ixBL : List UInt8 → UInt8 → Int
  | [], _ => -1
  | b :: l, c => if b == c then 0 else if ixBL l c == -1 then -1 else ixBL l c + 1
def ixB (s : ByteArray) (c : Int) : Int := ixBL s.data.toList c.toNat.toUInt8
def sbytes (s : ByteArray) : List Int := s.data.toList.map (fun b => (b.toNat : Int))

def forF {S R : Type} (body : Nat → S → Option (LR S R)) : Nat → Nat → S → Option (LR S R)
  | 0, _, s => some (.next s)
  | k + 1, i, s => match body i s with
    | none => none
    | some (.next s') => forF body k (i + 1) s'
    | some (.brk s') => some (.brk s')
    | some (.ret r) => some (.ret r)
def whileF {S R : Type} (body : S → Option (LR S R)) : Nat → S → Option (LR S R)
  | 0, _ => none
  | k + 1, s => match body s with
    | none => none
    | some (.next s') => whileF body k s'
    | some (.brk s') => some (.brk s')
    | some (.ret r) => some (.ret r)
def aft {S R T : Type} (o : Option (LR S R)) (k : S → Option T) (r : R → Option T) : Option T := match o with
  | none => none
  | some (.next s) => k s
  | some (.brk s) => k s
  | some (.ret x) => r x

def w64 (n : Int) : Int := let m := n % 18446744073709551616; if m ≥ 9223372036854775808 then m - 18446744073709551616 else m
def w32 (n : Int) : Int := let m := n % 4294967296; if m ≥ 2147483648 then m - 4294967296 else m
def u64 (n : Int) : Int := n % 18446744073709551616
def u32 (n : Int) : Int := n % 4294967296
def u16 (n : Int) : Int := n % 65536
def u8 (n : Int) : Int := n % 256
def shlE (a b : Int) (w : Nat) : Int := a * 2 ^ min b.toNat w
def shrE (a b : Int) (w : Nat) : Int := Int.fdiv a (2 ^ min b.toNat w)
def andW (w : Nat) (a b : Int) : Int := ((BitVec.ofInt w a &&& BitVec.ofInt w b).toNat : Int)
def orW (w : Nat) (a b : Int) : Int := ((BitVec.ofInt w a ||| BitVec.ofInt w b).toNat : Int)
def xorW (w : Nat) (a b : Int) : Int := ((BitVec.ofInt w a ^^^ BitVec.ofInt w b).toNat : Int)
def clrW (w : Nat) (a b : Int) : Int := ((BitVec.ofInt w a &&& ~~~BitVec.ofInt w b).toNat : Int)

theorem ixL_some {α : Type} {l : List α} {i : Int} {x : α} (h : ixL l i = some x) : 0 ≤ i ∧ i < l.length ∧ l[i.toNat]? = some x := by
  unfold ixL at h
  split at h
  · have := (List.getElem?_eq_some_iff.1 h).1
    exact ⟨by assumption, by omega, h⟩
  · cases h
theorem appL_some {α : Type} {b : Nat} {l r l' : List α} (h : appL b l r = some l') : (l.length + r.length) * b ≤ 140737488355328 ∧ l' = l ++ r := by
  unfold appL at h
  split at h
  · cases h; exact ⟨by assumption, rfl⟩
  · cases h
theorem updL_some {α : Type} {l l' : List α} {i : Int} {x : α} (h : updL l i x = some l') : 0 ≤ i ∧ i < l.length ∧ l' = l.set i.toNat x := by
  unfold updL at h
  split at h
  · rename_i hc; cases h; exact ⟨hc.1, hc.2, rfl⟩
  · cases h
theorem mkL_some {α : Type} {b : Nat} {x : α} {l c : Int} {l' : List α} (h : mkL b x l c = some l') : 0 ≤ l ∧ l ≤ c ∧ c * b ≤ 140737488355328 ∧ l' = List.replicate l.toNat x ∧ l'.length = l.toNat := by
  unfold mkL at h
  split at h
  · rename_i hc; cases h; exact ⟨hc.1, hc.2.1, hc.2.2, rfl, by simp⟩
  · cases h
theorem chkB_some {α : Type} {c : Bool} {x y : α} (h : chkB c x = some y) : c = true ∧ y = x := by
  unfold chkB at h
  split at h
  · cases h; exact ⟨by assumption, rfl⟩
  · cases h
theorem ixS_some {s : ByteArray} {i x : Int} (h : ixS s i = some x) : 0 ≤ i ∧ ∃ b, s[i.toNat]? = some b ∧ x = (b.toNat : Int) := by
  unfold ixS at h
  split at h
  · cases hs : s[i.toNat]? with
    | none => simp [hs] at h
    | some b => simp only [hs, Option.map_some, Option.some.injEq] at h; exact ⟨by assumption, b, rfl, h.symm⟩
  · cases h
theorem bindE {α β : Type} {o : Option α} {f : α → Option β} {b : β} (h : o.bind f = some b) : ∃ a, o = some a ∧ f a = some b := Option.bind_eq_some_iff.1 h
def forN {S R : Type} (E : Int) (body : Nat → S → Option (LR S R)) (s : S) : Option (LR S R) := if E ≤ 4611686018427387904 then forF body E.toNat 0 s else none
def tailL {α : Type} (l : List α) (lo : Int) : Option (List α) := if 0 ≤ lo ∧ lo ≤ l.length then some (l.drop lo.toNat) else none
def headL {α : Type} (l : List α) (hi : Int) : Option (List α) := if 0 ≤ hi ∧ hi ≤ l.length then some (l.take hi.toNat) else none
theorem tailL_some {α : Type} {l l' : List α} {lo : Int} (h : tailL l lo = some l') : 0 ≤ lo ∧ lo.toNat ≤ l.length ∧ l.drop lo.toNat = l' := by
  unfold tailL at h
  split at h
  · rename_i hc; cases h; exact ⟨hc.1, by omega, rfl⟩
  · cases h
theorem headL_some {α : Type} {l l' : List α} {hi : Int} (h : headL l hi = some l') : 0 ≤ hi ∧ hi.toNat ≤ l.length ∧ l.take hi.toNat = l' := by
  unfold headL at h
  split at h
  · rename_i hc; cases h; exact ⟨hc.1, by omega, rfl⟩
  · cases h
theorem cntW {i : Nat} {E : Int} (h : (i : Int) < E) (hE : E ≤ 4611686018427387904) : w64 ((i : Int) + 1) = ((i + 1 : Nat) : Int) := by
  unfold w64
  simp only []
  split <;> omega
theorem ixL_nat {α : Type} {l : List α} {i : Nat} {x : α} (h : ixL l (i : Int) = some x) : (i : Int) < l.length ∧ l[i]? = some x := by
  have := ixL_some h
  simpa using this.2
theorem aft2 {S R T : Type} {o : Option (LR S R)} {k : S → Option T} {r : R → Option T} {t : T} (h : aft o k r = some t) : ∃ x, o = some x ∧ (∀ s, (x = .next s ∨ x = .brk s) → k s = some t) ∧ (∀ y, x = .ret y → r y = some t) := by
  unfold aft at h
  split at h
  · cases h
  · refine ⟨_, rfl, ?_, ?_⟩
    · rintro s (hs | hs) <;> cases hs; exact h
    · intro y hy; cases hy
  · refine ⟨_, rfl, ?_, ?_⟩
    · rintro s (hs | hs) <;> cases hs; exact h
    · intro y hy; cases hy
  · refine ⟨_, rfl, ?_, ?_⟩
    · rintro s (hs | hs) <;> cases hs
    · intro y hy; cases hy; exact h
theorem take1_of {α : Type} {l : List α} {i : Nat} {x : α} (h : l[i]? = some x) : (l.drop i).take 1 = [x] := by
  obtain ⟨hi, hx⟩ := List.getElem?_eq_some_iff.1 h
  rw [List.drop_eq_getElem_cons hi, hx]; simp
theorem tailL_some2 {α : Type} {l l' : List α} {lo : Int} (h : tailL l lo = some l') : 0 ≤ lo ∧ lo.toNat ≤ l.length ∧ lo.toNat + (l.length - lo.toNat) ≤ l.length ∧ (l.drop lo.toNat).take (l.length - lo.toNat) = l' := by
  obtain ⟨h1, h2, h3⟩ := tailL_some h
  exact ⟨h1, h2, by omega, by rw [← h3]; exact List.take_of_length_le (by simp)⟩
def getMp {α : Type} : List (Int × α) → Int → Option α
  | [], _ => none
  | p :: r, n => if n = p.1 then some p.2 else getMp r n
def putMp {α : Type} : List (Int × α) → Int → α → List (Int × α)
  | [], n, v => [(n, v)]
  | p :: r, n, v => if n = p.1 then (p.1, v) :: r else p :: putMp r n v
def retM {R : Type} : LR Unit R → Option R
  | .ret r => some r
  | _ => none
def nxM {R : Type} : LR Unit R → Bool
  | .next _ => true
  | _ => false
def nbM {R : Type} : LR Unit R → Bool
  | .brk _ => false
  | _ => true
def rangeM {α R : Type} [DecidableEq R] (l : List α) (body : α → Option (LR Unit R)) : Option (LR Unit R) :=
  match l.mapM body with
  | none => none
  | some os =>
    match os.filterMap retM with
    | [] => if os.all nxM then some (.next ()) else none
    | r :: rs => if rs.all (fun x => decide (x = r)) && os.all nbM then some (.ret r) else none
def cpyL {α : Type} (d a : List α) : List α := a.take d.length ++ d.drop (min a.length d.length)
theorem cpyL_len {α : Type} (d a : List α) : (cpyL d a).length = d.length := by unfold cpyL; simp; omega
end Go.Pp
end
