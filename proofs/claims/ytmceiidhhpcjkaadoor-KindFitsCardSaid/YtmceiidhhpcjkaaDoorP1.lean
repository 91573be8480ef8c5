/- The plain law, part 1 -/
import Derived.Test.YtmceiidhhpcjkaaDoorU1
set_option linter.all false
section
/- Plain lemmas on the plain words: loops over lists, rows, whole numbers of 64 bits. -/
namespace Go.Pp
variable {α S R T : Type}

theorem forF_rule {body : Nat → S → Option (LR S R)} (I : Nat → S → Prop) (Q : LR S R → Prop) :
    ∀ (k i : Nat) (s : S), I i s →
    (∀ j s, i ≤ j → j < i + k → I j s → ∃ o, body j s = some o ∧ (match o with | .next s' => I (j+1) s' | .brk s' => Q (.brk s') | .ret r => Q (.ret r))) →
    (∀ s, I (i+k) s → Q (.next s)) → ∃ o, forF body k i s = some o ∧ Q o
  | 0, i, s, hI, _, he => ⟨.next s, rfl, he s hI⟩
  | k+1, i, s, hI, hs, he => by
    obtain ⟨o, ho, hm⟩ := hs i s (Nat.le_refl _) (by omega) hI
    unfold forF; rw [ho]
    cases o with
    | next s' => exact forF_rule I Q k (i+1) s' hm (fun j s h1 h2 => hs j s (by omega) (by omega)) (fun s h => he s (by rw [show i + (k+1) = i+1+k by omega]; exact h))
    | brk s' => exact ⟨_, rfl, hm⟩
    | ret r => exact ⟨_, rfl, hm⟩
theorem forN_rule {body : Nat → S → Option (LR S R)} (I : Nat → S → Prop) (Q : LR S R → Prop) {n : Nat} {s : S} (hn : n ≤ 4611686018427387904) (h0 : I 0 s)
    (hs : ∀ j s, j < n → I j s → ∃ o, body j s = some o ∧ (match o with | .next s' => I (j+1) s' | .brk s' => Q (.brk s') | .ret r => Q (.ret r)))
    (he : ∀ s, I n s → Q (.next s)) : ∃ o, forN (n : Int) body s = some o ∧ Q o := by
  unfold forN
  rw [if_pos (by omega), Int.toNat_natCast]
  exact forF_rule I Q n 0 s h0 (fun j s _ h => hs j s (by omega)) (by simpa using he)
theorem whileF_rule {body : S → Option (LR S R)} (I : S → Prop) (μ : S → Nat) (Q : LR S R → Prop)
    (hs : ∀ s, I s → ∃ o, body s = some o ∧ (match o with | .next s' => I s' ∧ μ s' < μ s | .brk s' => Q (.brk s') | .ret r => Q (.ret r))) :
    ∀ (k : Nat) (s : S), I s → μ s < k → ∃ o, whileF body k s = some o ∧ Q o
  | 0, s, _, h => by omega
  | k+1, s, hI, hk => by
    obtain ⟨o, ho, hm⟩ := hs s hI
    unfold whileF; rw [ho]
    cases o with
    | next s' => exact whileF_rule I μ Q hs k s' hm.1 (by have := hm.2; omega)
    | brk s' => exact ⟨_, rfl, hm⟩
    | ret r => exact ⟨_, rfl, hm⟩

theorem forN_allI {body : Nat → Unit → Option (LR Unit R)} {p : Nat → Bool} {r : R} {n : Nat} (hn : n ≤ 4611686018427387904)
    (h : ∀ j, j < n → (∀ m, m < j → p m = true) → body j () = some (if p j then .next () else .ret r)) :
    forN (n : Int) body () = some (if (List.range n).all p then .next () else .ret r) := by
  obtain ⟨o, ho, hq⟩ := forN_rule (body := body) (s := ()) (n := n) (fun j _ => ∀ m, m < j → p m = true) (fun o => o = (if (List.range n).all p then .next () else .ret r)) hn (fun _ h => by omega)
    (fun j s hj hI => by
      refine ⟨_, h j hj hI, ?_⟩
      cases hp : p j
      · simp only [Bool.false_eq_true, ↓reduceIte]
        rw [if_neg]
        intro ha
        have := List.all_eq_true.1 ha j (by simpa using hj)
        rw [hp] at this; cases this
      · simp only [↓reduceIte]
        intro m hm
        by_cases hmj : m = j
        · subst hmj; exact hp
        · exact hI m (by omega))
    (fun s hI => by
      rw [if_pos]
      exact List.all_eq_true.2 fun x hx => hI x (by simpa using hx))
  rw [ho, hq]
theorem all_range {l : List α} {p : α → Bool} {q : Nat → Bool} (h : ∀ i x, l[i]? = some x → q i = p x) : (List.range l.length).all q = l.all p := by
  rw [Bool.eq_iff_iff, List.all_eq_true, List.all_eq_true]
  constructor
  · intro H x hx
    obtain ⟨i, hi, rfl⟩ := List.mem_iff_getElem.1 hx
    rw [← h i _ (List.getElem?_eq_getElem hi)]
    exact H i (by simpa using hi)
  · intro H i hi
    have hi' : i < l.length := by simpa using hi
    rw [h i _ (List.getElem?_eq_getElem hi')]
    exact H _ (List.getElem_mem hi')
theorem ixL_of {l : List α} {i : Nat} {x : α} (h : l[i]? = some x) : ixL l (i : Int) = some x := by
  unfold ixL; rw [if_pos (by omega), Int.toNat_natCast]; exact h
theorem ixL_lt {l : List α} {i : Nat} (h : i < l.length) : ixL l (i : Int) = some l[i] := ixL_of (List.getElem?_eq_getElem h)
theorem ixL_int {l : List α} {i : Int} (h0 : 0 ≤ i) (h : i < l.length) : ixL l i = some (l[i.toNat]'(by omega)) := by
  unfold ixL; rw [if_pos h0]; exact List.getElem?_eq_getElem (by omega)
theorem forN_all {l : List α} {body : Nat → Unit → Option (LR Unit R)} {p : α → Bool} {r : R} (hn : l.length ≤ 4611686018427387904)
    (h : ∀ i x, l[i]? = some x → body i () = some (if p x then .next () else .ret r)) :
    forN (l.length : Int) body () = some (if l.all p then .next () else .ret r) := by
  rw [← all_range (q := fun i => match l[i]? with | some x => p x | none => true) (fun i x hx => by simp [hx])]
  refine forN_allI hn fun j hj _ => ?_
  rw [h j _ (List.getElem?_eq_getElem hj)]
  simp [List.getElem?_eq_getElem hj]
theorem appL_ok {b : Nat} {l r : List α} (h : (l.length + r.length) * b ≤ 140737488355328) : appL b l r = some (l ++ r) := by unfold appL; rw [if_pos h]
theorem w64_id {n : Int} (h1 : -9223372036854775808 ≤ n) (h2 : n ≤ 9223372036854775807) : w64 n = n := by unfold w64; simp only []; split <;> omega
theorem iteS {c : Prop} [Decidable c] {a b : α} : (if c then some a else some b) = some (if c then a else b) := by by_cases h : c <;> simp [h]
theorem aft_next {o : Option (LR S R)} {k : S → Option T} {r : R → Option T} {s : S} (h : o = some (.next s)) : aft o k r = k s := by rw [h]; rfl
theorem aft_brk {o : Option (LR S R)} {k : S → Option T} {r : R → Option T} {s : S} (h : o = some (.brk s)) : aft o k r = k s := by rw [h]; rfl
theorem aft_if {c : Prop} [Decidable c] {o : Option (LR S R)} {k : S → Option T} {r : R → Option T} {s : S} {x : R} (h : o = some (if c then .next s else .ret x)) : aft o k r = if c then k s else r x := by
  rw [h]; by_cases hc : c <;> simp [hc, aft]
end Go.Pp
end
section
/- Shapes: letters, bare, numbers, what an instruction reads and sets, where it goes: the same by the program and by the document. -/
namespace Go.Pf
open Go.Pp

def PS (op : Int) : ByteArray := (code_Parts op).getD ({ data := #[] } : ByteArray)
def hasS (op c : Int) : Bool := (sbytes (PS op)).contains c
theorem parts_fin : ∀ n : Fin 24, (code_Parts (n.val : Int)).isSome = true ∧ portolanref03_Parts (n.val : Int) = code_Parts (n.val : Int) := by decide +kernel
theorem parts_out {op : Int} (h : ¬ (0 ≤ op ∧ op < 24)) : code_Parts op = some ({ data := #[] } : ByteArray) ∧ portolanref03_Parts op = some ({ data := #[] } : ByteArray) := by
  constructor
  · unfold code_Parts
    by_cases h0 : op < 0
    · simp [h0]
    · have : 24 ≤ op := by omega
      simp [h0, this]
  · have e : ∀ k : Int, 0 ≤ k → k < 24 → (op == k) = false := fun k h1 h2 => by simp; omega
    simp [portolanref03_Parts, portolanref03_Parts.j1, portolanref03_Parts.j2, portolanref03_Parts.j3, portolanref03_Parts.j4, portolanref03_Parts.j5, e]
theorem fin_of {op : Int} (h : 0 ≤ op ∧ op < 24) : ∃ n : Fin 24, op = (n.val : Int) := ⟨⟨op.toNat, by omega⟩, by simp; omega⟩
theorem parts_c (op : Int) : code_Parts op = some (PS op) := by
  by_cases h : 0 ≤ op ∧ op < 24
  · obtain ⟨n, rfl⟩ := fin_of h
    have := (parts_fin n).1
    unfold PS
    cases hx : code_Parts (n.val : Int) with
    | none => rw [hx] at this; cases this
    | some x => rfl
  · unfold PS; rw [(parts_out h).1]; rfl
theorem parts_r (op : Int) : portolanref03_Parts op = some (PS op) := by
  by_cases h : 0 ≤ op ∧ op < 24
  · obtain ⟨n, rfl⟩ := fin_of h
    rw [(parts_fin n).2, parts_c]
  · unfold PS; rw [(parts_out h).1, (parts_out h).2]; rfl
theorem PS_out {op : Int} (h : ¬ (0 ≤ op ∧ op < 24)) : PS op = ({ data := #[] } : ByteArray) := by unfold PS; rw [(parts_out h).1]; rfl
def letters : List Int := [68, 65, 66, 78, 77, 110, 76]
theorem has_fin : ∀ n : Fin 24, ∀ c ∈ letters, portolanref04_has (n.val : Int) c = some (hasS (n.val : Int) c) ∧ shape_has (n.val : Int) c = some (hasS (n.val : Int) c) ∧ code_letters (n.val : Int) c = some (hasS (n.val : Int) c) := by decide +kernel
theorem any_fin : ∀ n : Fin 24, ∀ c ∈ letters, shape_hasAny (PS (n.val : Int)) ({ data := #[c.toNat.toUInt8] } : ByteArray) = some (hasS (n.val : Int) c) := by decide +kernel
theorem any2_fin : ∀ n : Fin 24, shape_hasAny (PS (n.val : Int)) ({ data := #[78, 110] } : ByteArray) = some (hasS (n.val : Int) 78 || hasS (n.val : Int) 110) := by decide +kernel
theorem has_e : ∀ c ∈ letters, aft (forN (ByteArray.size ({ data := #[] } : ByteArray) : Int) (portolanref04_has.b1 c ({ data := #[] } : ByteArray)) ()) (fun _ => portolanref04_has.k1) (fun r => some r) = some false ∧ (strings_IndexByte ({ data := #[] } : ByteArray) c).bind (fun x2 => some (decide (0 ≤ x2))) = some false ∧ (sbytes ({ data := #[] } : ByteArray)).contains c = false ∧ shape_hasAny ({ data := #[] } : ByteArray) ({ data := #[c.toNat.toUInt8] } : ByteArray) = some false ∧ shape_hasAny ({ data := #[] } : ByteArray) ({ data := #[78, 110] } : ByteArray) = some false := by decide +kernel
theorem has_all (op : Int) {c : Int} (hc : c ∈ letters) : portolanref04_has op c = some (hasS op c) ∧ shape_has op c = some (hasS op c) ∧ code_letters op c = some (hasS op c) ∧ shape_hasAny (PS op) ({ data := #[c.toNat.toUInt8] } : ByteArray) = some (hasS op c) ∧ shape_hasAny (PS op) ({ data := #[78, 110] } : ByteArray) = some (hasS op 78 || hasS op 110) := by
  by_cases h : 0 ≤ op ∧ op < 24
  · obtain ⟨n, rfl⟩ := fin_of h
    obtain ⟨h1, h2, h3⟩ := has_fin n c hc
    exact ⟨h1, h2, h3, any_fin n c hc, any2_fin n⟩
  · obtain ⟨h1, h2, h3, h4, h5⟩ := has_e c hc
    have hS : ∀ c ∈ letters, hasS op c = false := fun c hc => by unfold hasS; rw [PS_out h]; exact (has_e c hc).2.2.1
    rw [hS c hc, hS 78 (by decide), hS 110 (by decide)]
    refine ⟨?_, ?_, ?_, ?_, ?_⟩
    · unfold portolanref04_has; rw [(parts_out h).2, Option.bind_some]; exact h1
    · unfold shape_has; rw [(parts_out h).1, Option.bind_some]; exact h2
    · unfold code_letters; rw [(parts_out h).1, Option.bind_some]; exact h2
    · rw [PS_out h]; exact h4
    · rw [PS_out h]; exact h5
theorem has_r (op : Int) {c : Int} (hc : c ∈ letters := by decide) : portolanref04_has op c = some (hasS op c) := (has_all op hc).1
def wI (x lo hi : Int) : Bool := decide (lo ≤ x ∧ x ≤ hi)
theorem within_r (a b c : Int) : portolanref04_within a b c = some (wI a b c) := by
  unfold portolanref04_within wI; by_cases h : b ≤ a <;> simp [h]

def bareS (x : Ins) : Bool :=
  ((x.D == 0) || hasS x.Op 68) && ((x.A == 0) || hasS x.Op 65) && ((x.B == 0) || hasS x.Op 66) && ((x.N == 0) || (hasS x.Op 78 || hasS x.Op 110)) && ((x.M == 0) || hasS x.Op 77) && (((x.Args.length : Int) == 0) || hasS x.Op 76)
theorem bare_r (x : Ins) : portolanref04_bare x = some (bareS x) := by
  unfold portolanref04_bare bareS
  simp only [has_r x.Op (c := 68), has_r x.Op (c := 65), has_r x.Op (c := 66), has_r x.Op (c := 78), has_r x.Op (c := 110), has_r x.Op (c := 77), has_r x.Op (c := 76), Option.bind_some]
  generalize (x.D == 0) = b1
  generalize hasS x.Op 68 = c1
  generalize (x.A == 0) = b2
  generalize hasS x.Op 65 = c2
  generalize (x.B == 0) = b3
  generalize hasS x.Op 66 = c3
  generalize (x.N == 0) = b4
  generalize hasS x.Op 78 = c4
  generalize hasS x.Op 110 = c5
  generalize (x.M == 0) = b5
  generalize hasS x.Op 77 = c6
  generalize ((x.Args.length : Int) == 0) = b6
  generalize hasS x.Op 76 = c7
  clear x
  revert b1 c1 b2 c2 b3 c3 b4 c4 c5 b5 c6 b6 c7
  decide +kernel

def nQ (n : Nat) : Int := (n : Int) - 1
theorem w64L {n : Nat} (h : n ≤ 281474976710656) : w64 ((n : Int) - 1) = nQ n := by unfold nQ; exact w64_id (by omega) (by omega)
def okF0 (p : Prog) : Prop := p.Funcs.length ≤ 281474976710656
def numS (p : Prog) (x : Ins) : Bool :=
  if x.Op == 19 then wI x.N 0 (nQ p.Funcs.length) && (match ixL p.Funcs x.N with | some f => (x.Args.length : Int) == f.Params | none => false)
  else if x.Op == 1 then wI x.N (-2147483648) 2147483648
  else if x.Op == 16 then wI x.N (-8) 8
  else if x.Op == 10 then wI x.N 0 8 && wI x.M 0 8
  else if x.Op == 11 || x.Op == 12 || x.Op == 13 || x.Op == 14 || x.Op == 15 then wI x.N 0 7
  else true
theorem ixL_in {α : Type} {l : List α} {i : Int} (h : wI i 0 (nQ l.length) = true) : ∃ x, ixL l i = some x ∧ x ∈ l := by
  unfold wI nQ at h
  have h := of_decide_eq_true h
  exact ⟨_, ixL_int h.1 (by omega), List.getElem_mem _⟩
theorem num_r {p : Prog} {x : Ins} (h : okF0 p) : portolanref04_Ins.k2 p x = some (numS p x) := by
  unfold portolanref04_Ins.k2 numS portolanref04_Ins.j3
  simp only [within_r, Option.bind_some, w64L h]
  cases h1 : x.Op == 19
  · cases h2 : x.Op == 1 <;> cases h3 : x.Op == 16 <;> cases h4 : x.Op == 10 <;> cases h5 : x.Op == 11 <;> cases h6 : x.Op == 12 <;> cases h7 : x.Op == 13 <;> cases h8 : x.Op == 14 <;> simp [iteS]
    all_goals cases wI x.N 0 8 <;> simp
  · cases hw : wI x.N 0 (nQ p.Funcs.length)
    · simp
    · obtain ⟨f, hf, _⟩ := ixL_in hw
      simp [hf]

def lastS (op : Int) : Bool := wI op 21 23
theorem last_r (op : Int) : portolanref04_Last op = some (lastS op) := by
  unfold portolanref04_Last lastS wI
  by_cases h1 : op = 21
  · simp [h1]
  · by_cases h2 : op = 22
    · simp [h2]
    · by_cases h3 : op = 23
      · simp [h3]
      · have : ¬ (21 ≤ op ∧ op ≤ 23) := by omega
        simp [h1, h2, h3, this]
def setS (x : Ins) : Int × Bool := if hasS x.Op 68 then (x.D, true) else (0, false)
theorem sets_r (x : Ins) : portolanref04_Sets x = some (setS x) := by unfold portolanref04_Sets setS; rw [has_r]; cases hasS x.Op 68 <;> simp
def useS (x : Ins) : List Int := (if hasS x.Op 65 then [x.A] else []) ++ (if hasS x.Op 66 then [x.B] else []) ++ (if hasS x.Op 76 then x.Args else [])
def okI0 (x : Ins) : Prop := x.Args.length ≤ 17592186043904
theorem use_r {x : Ins} (h : okI0 x) : portolanref04_Uses x = some (useS x) := by
  unfold okI0 at h
  unfold portolanref04_Uses portolanref04_Uses.j1 portolanref04_Uses.j2 useS
  simp only [has_r x.Op (c := 65), has_r x.Op (c := 66), has_r x.Op (c := 76), Option.bind_some]
  cases hasS x.Op 65 <;> cases hasS x.Op 66 <;> cases hasS x.Op 76 <;> simp [appL] <;> omega
theorem use_len {x : Ins} (h : okI0 x) : (useS x).length ≤ 17592186043906 := by
  unfold okI0 at h
  unfold useS
  cases hasS x.Op 65 <;> cases hasS x.Op 66 <;> cases hasS x.Op 76 <;> simp <;> omega
def nextS (x : Ins) : List Int := if x.Op == 21 then [x.N] else if x.Op == 22 then (if x.N = x.M then [x.N] else if x.N < x.M then [x.N, x.M] else [x.M, x.N]) else []
theorem next_r (x : Ins) : portolanref04_Next x = some (nextS x) := by
  unfold portolanref04_Next nextS
  by_cases h2 : x.Op = 21
  · simp [h2]
  · by_cases h1 : x.Op = 22
    · simp only [h1]
      rcases Int.lt_trichotomy x.N x.M with h | h | h
      · have : ¬ x.M < x.N := by omega
        have : x.N ≠ x.M := by omega
        simp [*]
      · simp [*]
      · have : ¬ x.N < x.M := by omega
        have : x.N ≠ x.M := by omega
        simp [*]
    · simp [h1, h2]
theorem next_len (x : Ins) : (nextS x).length ≤ 2 := by unfold nextS; (repeat' split) <;> simp
end Go.Pf
end
section
/- Shapes: which function may be, by the program and by the document. -/
namespace Go.Pf
open Go.Pp

theorem iteB (b : Bool) : (if b = true then some true else some false) = some b := by cases b <;> rfl
def lastAt (b : Block) (i : Nat) : Bool := match b.Code[i]? with
  | some x => lastS x.Op == ((i : Int) == nQ b.Code.length)
  | none => false
def blockS (b : Block) : Bool := wI b.Code.length 1 40 && (List.range b.Code.length).all (lastAt b)
theorem block_r {a : Func} {b : Block} {i : Nat} (hb : a.Blocks[i]? = some b) (h : b.Code.length ≤ 281474976710656) : portolanref04_Func.b2 a i () = some (if blockS b then .next () else .ret false) := by
  unfold portolanref04_Func.b2 blockS
  simp only [ixL_of hb, Option.bind_some, within_r]
  cases hw : wI b.Code.length 1 40
  · simp
  simp only [↓reduceIte, Bool.true_and]
  rw [aft_if (forN_allI (p := lastAt b) (r := false) (by omega) (fun j hj _ => by
    simp only [portolanref04_Func.b3, ixL_lt hj, Option.bind_some, last_r, w64L h, lastAt, List.getElem?_eq_getElem hj]; split <;> simp_all))]
  simp only [portolanref04_Func.k3, iteS]

def entB (f : Func) (k b : Int) : Bool := if k == 2 then wI b 0 (nQ f.Kinds.length) && (match ixL f.Kinds b with | some k' => k' == 1 | none => false) else (k == 0 || k == 1) && b == -1
def entS (f : Func) (i : Nat) : Bool := match f.Kinds[i]?, f.Base[i]? with
  | some k, some b => entB f k b
  | _, _ => false
def okF1 (f : Func) : Prop := f.Kinds.length ≤ 281474976710656 ∧ f.Base.length ≤ 281474976710656 ∧ f.Blocks.length ≤ 281474976710656 ∧ ∀ b ∈ f.Blocks, b.Code.length ≤ 281474976710656
def kindsS (f : Func) : Bool := decide (f.Kinds.length ≤ 48) && decide (f.Base.length = f.Kinds.length) && (List.range f.Kinds.length).all (entS f)
def parS (f : Func) : Bool := (List.range f.Kinds.length).all fun i => match f.Kinds[i]? with | some k => !(decide ((i : Int) < f.Params) && k == 2) | none => true
def funcS (f : Func) : Bool := kindsS f && (wI f.Params 0 (if (f.Kinds.length : Int) < 4 then (f.Kinds.length : Int) else 4) && (parS f && (wI f.Result 0 1 && (wI f.Blocks.length 1 40 && f.Blocks.all blockS))))
theorem func_r {f : Func} (h : okF1 f) : portolanref04_Func f = some (funcS f) := by
  have hall : f.Base.length = f.Kinds.length → f.Kinds.length ≤ 48 → portolanref04_Func.j1 f false = some ((List.range f.Kinds.length).all (entS f) && (parS f && f.Blocks.all blockS)) := by
    intro hb hk
    unfold portolanref04_Func.j1
    simp only [Bool.false_eq_true, ↓reduceIte]
    rw [aft_if (forN_allI (p := fun i => entS f i && (match f.Kinds[i]? with | some k => !(decide ((i : Int) < f.Params) && k == 2) | none => true)) (r := false) (by omega) (fun j hj _ => by
      have hj2 : j < f.Base.length := by omega
      simp only [portolanref04_Func.b1, portolanref04_Func.j2, ixL_lt hj, ixL_lt hj2, Option.bind_some, entS, List.getElem?_eq_getElem hj, List.getElem?_eq_getElem hj2, within_r, w64L h.1, entB]
      generalize f.Kinds[j] = k
      generalize f.Base[j] = b
      by_cases k0 : k = 0
      · by_cases b1 : b = -1 <;> simp [k0, b1, wI]
      · by_cases k1 : k = 1
        · by_cases b1 : b = -1 <;> simp [k1, b1, wI]
        · by_cases k2 : k = 2
          · simp only [k2]
            by_cases hp : (j : Int) < f.Params
            · simp [hp, wI]
            · rw [show wI 2 0 2 = true by decide]
              cases hw : wI b 0 (nQ f.Kinds.length)
              · simp [hp]
              · obtain ⟨x, hx, _⟩ := ixL_in hw
                by_cases hx1 : x = 1 <;> simp [hx, hx1, hp]
          · have : wI k 0 2 = false := by unfold wI; rw [decide_eq_false_iff_not]; omega
            simp [k0, k1, k2, this]))]
    have e : ((List.range f.Kinds.length).all fun i => entS f i && (match f.Kinds[i]? with | some k => !(decide ((i : Int) < f.Params) && k == 2) | none => true)) = ((List.range f.Kinds.length).all (entS f) && parS f) := by
      unfold parS
      rw [Bool.eq_iff_iff, Bool.and_eq_true, List.all_eq_true, List.all_eq_true, List.all_eq_true]
      simp only [Bool.and_eq_true]
      exact ⟨fun H => ⟨fun x hx => (H x hx).1, fun x hx => (H x hx).2⟩, fun H x hx => ⟨H.1 x hx, H.2 x hx⟩⟩
    rw [e]
    have e2 : portolanref04_Func.k1 f = some (f.Blocks.all blockS) := by
      unfold portolanref04_Func.k1
      rw [aft_if (forN_all (p := blockS) (r := false) (by have := h.2.2.1; omega) (fun i b hb => block_r hb (h.2.2.2 b (List.mem_of_getElem? hb))))]
      simp only [portolanref04_Func.k2, iteB]
    rw [e2]
    cases (List.range f.Kinds.length).all (entS f) <;> cases parS f <;> simp
  unfold portolanref04_Func funcS kindsS
  simp only [within_r, Option.bind_some]
  by_cases h48 : f.Kinds.length ≤ 48
  · have e1 : ¬ (48 < (f.Kinds.length : Int)) := by omega
    by_cases hb : f.Base.length = f.Kinds.length
    · have e2 : ((f.Base.length : Int) != (f.Kinds.length : Int)) = false := by simp [hb]
      simp only [e1, decide_false, Bool.false_eq_true, ↓reduceIte, e2]
      cases wI f.Params 0 (if (f.Kinds.length : Int) < 4 then (f.Kinds.length : Int) else 4)
      · simp [portolanref04_Func.j1]
      cases wI f.Result 0 1
      · simp [portolanref04_Func.j1]
      cases wI f.Blocks.length 1 40
      · simp [portolanref04_Func.j1]
      simp only [↓reduceIte, Bool.not_true, hall hb h48]
      simp [h48, hb]
    · have e2 : ((f.Base.length : Int) != (f.Kinds.length : Int)) = true := by simp; omega
      simp [e1, e2, hb, portolanref04_Func.j1]
  · have e1 : (48 < (f.Kinds.length : Int)) := by omega
    simp [e1, h48, portolanref04_Func.j1]
end Go.Pf
end
section
/- Shapes: which instruction and which program may be, by the program and by the document; the size of a program. -/
namespace Go.Pf
open Go.Pp

def okFn (f : Func) : Prop := okF1 f ∧ ∀ b ∈ f.Blocks, ∀ x ∈ b.Code, okI0 x
def okPr (p : Prog) : Prop := okF0 p ∧ ∀ f ∈ p.Funcs, okFn f
def touchS (x : Ins) : List Int := useS x ++ (if (setS x).2 then [(setS x).1] else [])
def inF (f : Func) (x : Ins) : Bool := (touchS x).all (fun v => wI v 0 (nQ f.Kinds.length)) && (nextS x).all (fun v => wI v 1 (nQ f.Blocks.length))
def insS (p : Prog) (fi : Int) (x : Ins) : Bool :=
  wI fi 0 (nQ p.Funcs.length) && (!(ByteArray.toList (PS x.Op) == ByteArray.toList ({ data := #[] } : ByteArray)) && (bareS x && (numS p x && (match ixL p.Funcs fi with | some f => inF f x | none => false))))
theorem touch_len {x : Ins} (h : okI0 x) : (touchS x).length ≤ 17592186043907 := by
  have := use_len h
  unfold touchS; split <;> simp <;> omega
theorem touch_app {x : Ins} (h : okI0 x) (hs : (setS x).2 = true) : appL 8 (useS x) [(setS x).1] = some (touchS x) := by
  have := use_len h
  rw [appL_ok (by simp; omega)]; unfold touchS; rw [if_pos hs]
theorem ins_r {p : Prog} {fi : Int} {x : Ins} (hp : okPr p) (h : okI0 x) : portolanref04_Ins p fi x = some (insS p fi x) := by
  unfold portolanref04_Ins insS
  simp only [within_r, Option.bind_some, w64L hp.1]
  cases hw : wI fi 0 (nQ p.Funcs.length)
  · simp [portolanref04_Ins.j1]
  obtain ⟨f, hf, hfm⟩ := ixL_in hw
  have hF := (hp.2 f hfm).1
  simp only [↓reduceIte, parts_r, Option.bind_some, bare_r, Bool.true_and, hf]
  cases (ByteArray.toList (PS x.Op) == ByteArray.toList ({ data := #[] } : ByteArray))
  rotate_left
  · simp [portolanref04_Ins.j1]
  cases bareS x
  · simp [portolanref04_Ins.j1]
  simp only [portolanref04_Ins.j1, Bool.not_true, Bool.not_false, Bool.false_eq_true, ↓reduceIte, hf, Option.bind_some, use_r h, sets_r, Bool.true_and]
  have hj : ∀ l : List Int, l.length ≤ 17592186043907 → portolanref04_Ins.j2 p x f l = some (numS p x && (l.all (fun v => wI v 0 (nQ f.Kinds.length)) && (nextS x).all (fun v => wI v 1 (nQ f.Blocks.length)))) := by
    intro l hl
    unfold portolanref04_Ins.j2
    rw [aft_if (forN_all (p := fun v => wI v 0 (nQ f.Kinds.length)) (r := false) (by omega) (fun i v hv => by
      simp only [portolanref04_Ins.b1, ixL_of hv, Option.bind_some, within_r, w64L hF.1, iteS]))]
    unfold portolanref04_Ins.k1
    rw [next_r, Option.bind_some, aft_if (forN_all (p := fun v => wI v 1 (nQ f.Blocks.length)) (r := false) (by have := next_len x; omega) (fun i v hv => by
      simp only [portolanref04_Ins.b2, ixL_of hv, Option.bind_some, within_r, w64L hF.2.2.1, iteS]))]
    rw [num_r hp.1]
    cases l.all fun v => wI v 0 (nQ f.Kinds.length) <;> cases (nextS x).all fun v => wI v 1 (nQ f.Blocks.length) <;> simp
  cases hs : (setS x).2
  · simp only [Bool.false_eq_true, ↓reduceIte]
    rw [hj _ (by have := use_len h; omega)]
    unfold inF touchS; simp [hs]
  · simp only [↓reduceIte, touch_app h hs, Option.bind_some]
    rw [hj _ (touch_len h)]; rfl

def codeS (p : Prog) (fi : Int) (f : Func) : Bool := f.Blocks.all fun b => b.Code.all (insS p fi)
def okAt (p : Prog) (i : Nat) : Bool := match p.Funcs[i]? with
  | some f => funcS f && codeS p (i : Int) f
  | none => false
def headS (p : Prog) : Bool := wI p.Funcs.length 1 8 && (match p.Funcs[0]? with | some f => f.Params == 0 && f.Result == 0 | none => false)
def checkS (p : Prog) : Bool := headS p && (List.range p.Funcs.length).all (okAt p)
theorem check_r {p : Prog} (hp : okPr p) : portolanref04_Check p = some (if checkS p then 0 else 5) := by
  have h0 : okF0 p := hp.1
  unfold okF0 at h0
  have hj : portolanref04_Check.j1 p false = some (if (List.range p.Funcs.length).all (okAt p) then 0 else 5) := by
    unfold portolanref04_Check.j1
    simp only [Bool.false_eq_true, ↓reduceIte]
    rw [aft_if (forN_allI (p := okAt p) (r := (5 : Int)) (by omega) (fun j hj _ => by
      have hF := hp.2 _ (List.getElem_mem hj)
      simp only [portolanref04_Check.b1, ixL_lt hj, Option.bind_some, func_r hF.1, okAt, List.getElem?_eq_getElem hj]
      cases funcS p.Funcs[j]
      · simp
      simp only [↓reduceIte, Bool.true_and]
      rw [aft_if (forN_all (p := fun b => b.Code.all (insS p j)) (r := (5 : Int)) (by have := hF.1.2.2.1; omega) (fun i b hb => by
        have hbm := List.mem_of_getElem? hb
        have hbl := hF.1.2.2.2 b hbm
        obtain ⟨o, ho, hq⟩ := whileF_rule (body := portolanref04_Check.b3 p p.Funcs[j] j i) (fun s => ∃ k : Nat, s = (k : Int) ∧ k ≤ b.Code.length ∧ ∀ m (hm : m < b.Code.length), m < k → insS p j b.Code[m] = true) (fun s => (b.Code.length - s).toNat)
          (fun o => (∃ s, o = .brk s ∧ b.Code.all (insS p j) = true) ∨ (o = .ret 5 ∧ b.Code.all (insS p j) = false))
          (fun s hs => by
            obtain ⟨k, rfl, hk, hI⟩ := hs
            simp only [portolanref04_Check.b3, ixL_of hb, Option.bind_some]
            by_cases hkl : k < b.Code.length
            · have e1 : (k : Int) < b.Code.length := by omega
              simp only [e1, decide_true, ↓reduceIte, ixL_lt hkl, Option.bind_some, ins_r hp (hF.2 b hbm _ (List.getElem_mem hkl))]
              cases hi : insS p j b.Code[k]
              · exact ⟨_, rfl, .inr ⟨rfl, by rw [← Bool.not_eq_true, List.all_eq_true]; intro H; rw [H _ (List.getElem_mem hkl)] at hi; cases hi⟩⟩
              · refine ⟨_, rfl, ⟨k + 1, by rw [w64_id (by omega) (by omega)]; rfl, by omega, fun m hm hmk => ?_⟩, by rw [w64_id (by omega) (by omega)]; omega⟩
                by_cases e : m = k
                · subst e; exact hi
                · exact hI m hm (by omega)
            · have e1 : ¬ (k : Int) < b.Code.length := by omega
              simp only [e1, decide_false, Bool.false_eq_true, ↓reduceIte]
              refine ⟨_, rfl, .inl ⟨_, rfl, List.all_eq_true.2 fun x hx => ?_⟩⟩
              obtain ⟨m, hm, rfl⟩ := List.mem_iff_getElem.1 hx
              exact hI m hm (by omega)) 18446744073709551616 0 ⟨0, rfl, by omega, fun _ _ h => by omega⟩ (by omega)
        simp only [portolanref04_Check.b2]
        rw [ho]
        rcases hq with ⟨s, rfl, ha⟩ | ⟨rfl, ha⟩ <;> simp [ha, aft, portolanref04_Check.k3]))]
      simp only [portolanref04_Check.k2]
      by_cases hc : codeS p (j : Int) p.Funcs[j] = true
      · have hc' := hc; unfold codeS at hc'; rw [if_pos hc', if_pos hc]
      · have hc' := hc; unfold codeS at hc'; rw [if_neg hc', if_neg hc]))]
    simp only [portolanref04_Check.k1, iteS]
  unfold portolanref04_Check checkS headS
  rw [within_r, Option.bind_some]
  cases hw : wI p.Funcs.length 1 8
  · simp [portolanref04_Check.j1]
  have hlen : 0 < p.Funcs.length := by unfold wI at hw; have := of_decide_eq_true hw; omega
  have e := ixL_lt (l := p.Funcs) (i := 0) hlen
  simp only [↓reduceIte, show ixL p.Funcs 0 = some p.Funcs[0] from e, Option.bind_some, List.getElem?_eq_getElem hlen, bne]
  cases p.Funcs[0].Params == 0
  · simp [portolanref04_Check.j1]
  cases p.Funcs[0].Result == 0
  · simp [portolanref04_Check.j1]
  simp [hj]

theorem great_t {p : Prog} (hp : okPr p) : ∃ b, portolanref03_Great p = some b := by
  have h0 : okF0 p := hp.1
  unfold okF0 at h0
  have hin : ∀ (i : Nat) (f : Func), okFn f → ∀ (j : Nat) (b : Block), f.Blocks[j]? = some b → ∀ x : Int, 0 ≤ x → x ≤ 281474976710656000 → ∃ o, whileF (portolanref03_Great.b3 f j) 18446744073709551616 (x, 0) = some o ∧ ∃ s, o = .brk s ∧ 0 ≤ s.1 ∧ s.1 ≤ 562949953421312000 := by
    intro i f hf j b hb x hx0 hx1
    have hbm := List.mem_of_getElem? hb
    have hbl := hf.1.2.2.2 b hbm
    refine whileF_rule (body := portolanref03_Great.b3 f j) (fun s => 0 ≤ s.1 ∧ s.1 ≤ 562949953421312000 ∧ ∃ k : Nat, s.2 = (k : Int) ∧ k ≤ b.Code.length) (fun s => (b.Code.length - s.2).toNat) _ (fun s hs => ?_) 18446744073709551616 (x, 0) ⟨hx0, by simp only; omega, 0, rfl, by omega⟩ (by simp only; omega)
    obtain ⟨y, z⟩ := s
    obtain ⟨h1, h2, k, rfl, hk⟩ := hs
    simp only [portolanref03_Great.b3, ixL_of hb, Option.bind_some]
    by_cases hkl : k < b.Code.length
    · have e1 : (k : Int) < b.Code.length := by omega
      by_cases h3 : y ≤ 3000
      · have ha := hf.2 b hbm _ (List.getElem_mem hkl)
        unfold okI0 at ha
        simp only at h1 h2
        simp only [e1, decide_true, ↓reduceIte, h3, portolanref03_Great.j1, ixL_of hb, Option.bind_some, ixL_lt hkl]
        refine ⟨_, rfl, ⟨?_, ?_, k + 1, ?_, by omega⟩, ?_⟩ <;> simp only
        · rw [w64_id (by omega) (by omega)]; omega
        · rw [w64_id (by omega) (by omega)]; omega
        · rw [w64_id (by omega) (by omega)]; rfl
        · rw [w64_id (by omega) (by omega)]; omega
      · simp only [e1, decide_true, ↓reduceIte, h3, portolanref03_Great.j1, decide_false, Bool.false_eq_true]
        exact ⟨_, rfl, _, rfl, h1, h2⟩
    · have e1 : ¬ (k : Int) < b.Code.length := by omega
      simp only [e1, decide_false, Bool.false_eq_true, ↓reduceIte, portolanref03_Great.j1]
      exact ⟨_, rfl, _, rfl, h1, h2⟩
  obtain ⟨o, ho, s, hs⟩ := forN_rule (body := portolanref03_Great.b1 p) (s := (p.Funcs.length : Int)) (n := p.Funcs.length) (fun _ x => 0 ≤ x ∧ x ≤ 562949953421312000) (fun o => ∃ s, o = .next s ∨ o = .brk s) (by omega) ⟨by omega, by omega⟩ (fun j s hj hI => by
    have hF := hp.2 _ (List.getElem_mem hj)
    have hk := hF.1.1
    have hb := hF.1.2.1
    have hl := hF.1.2.2.1
    simp only [portolanref03_Great.b1]
    by_cases h3 : s ≤ 3000
    · simp only [h3, decide_true, ↓reduceIte, ixL_lt hj, Option.bind_some]
      rw [w64_id (n := s + (p.Funcs[j].Kinds.length : Int)) (by omega) (by omega), w64_id (n := s + (p.Funcs[j].Kinds.length : Int) + (p.Funcs[j].Base.length : Int)) (by omega) (by omega), w64_id (n := s + (p.Funcs[j].Kinds.length : Int) + (p.Funcs[j].Base.length : Int) + (p.Funcs[j].Blocks.length : Int)) (by omega) (by omega)]
      obtain ⟨o, ho, s', hs, h1, h2⟩ := forN_rule (body := portolanref03_Great.b2 p.Funcs[j]) (s := s + (p.Funcs[j].Kinds.length : Int) + (p.Funcs[j].Base.length : Int) + (p.Funcs[j].Blocks.length : Int)) (n := p.Funcs[j].Blocks.length) (fun _ x => 0 ≤ x ∧ x ≤ 562949953421312000) (fun o => ∃ s, (o = .next s ∨ o = .brk s) ∧ 0 ≤ s ∧ s ≤ 562949953421312000) (by omega) ⟨by omega, by omega⟩ (fun i y hi hI2 => by
        have hcl := hF.1.2.2.2 _ (List.getElem_mem hi)
        simp only [portolanref03_Great.b2]
        by_cases h4 : y ≤ 3000
        · simp only [h4, decide_true, ↓reduceIte, ixL_lt hi, Option.bind_some]
          rw [w64_id (by omega) (by omega)]
          obtain ⟨o, ho, s, rfl, h5, h6⟩ := hin j p.Funcs[j] hF i _ (List.getElem?_eq_getElem hi) (y + (p.Funcs[j].Blocks[i].Code.length : Int)) (by omega) (by omega)
          rw [aft_brk ho]
          exact ⟨_, rfl, h5, h6⟩
        · simp only [h4, decide_false, Bool.false_eq_true, ↓reduceIte]
          exact ⟨_, rfl, _, .inr rfl, hI2.1, hI2.2⟩) (fun s h => ⟨s, .inl rfl, h.1, h.2⟩)
      rcases hs with rfl | rfl
      · rw [aft_next ho]; exact ⟨_, rfl, h1, h2⟩
      · rw [aft_brk ho]; exact ⟨_, rfl, h1, h2⟩
    · simp only [h3, decide_false, Bool.false_eq_true, ↓reduceIte]
      exact ⟨_, rfl, _, .inr rfl⟩) (fun s _ => ⟨s, .inl rfl⟩)
  unfold portolanref03_Great
  rcases hs with rfl | rfl
  · rw [aft_next ho]; exact ⟨_, rfl⟩
  · rw [aft_brk ho]; exact ⟨_, rfl⟩
end Go.Pf
end
section
/- What a program that may be has. -/
namespace Go.Pf
open Go.Pp

theorem check_parts {p : Prog} (h : checkS p = true) : (∀ (i : Nat) (hi : i < p.Funcs.length), funcS p.Funcs[i] = true ∧ codeS p (i : Int) p.Funcs[i] = true) ∧ headS p = true := by
  unfold checkS at h
  rw [Bool.and_eq_true, List.all_eq_true] at h
  refine ⟨fun i hi => ?_, h.1⟩
  have := h.2 i (by simpa using hi)
  unfold okAt at this
  rw [List.getElem?_eq_getElem hi] at this
  simpa using this
theorem func_blocks {f : Func} (h : funcS f = true) : 1 ≤ f.Blocks.length ∧ f.Params ≤ f.Kinds.length ∧ ∀ b ∈ f.Blocks, 1 ≤ b.Code.length ∧ ∀ (i : Nat) (hi : i < b.Code.length), lastS b.Code[i].Op = ((i : Int) == nQ b.Code.length) := by
  unfold funcS at h
  simp only [Bool.and_eq_true] at h
  obtain ⟨_, hp, _, _, hb, hall⟩ := h
  unfold wI at hp hb
  have hp := of_decide_eq_true hp
  have hb := of_decide_eq_true hb
  refine ⟨by omega, by split at hp <;> omega, fun b hbm => ?_⟩
  have := List.all_eq_true.1 hall b hbm
  unfold blockS at this
  rw [Bool.and_eq_true, List.all_eq_true] at this
  obtain ⟨h1, h2⟩ := this
  unfold wI at h1
  have h1 := of_decide_eq_true h1
  refine ⟨by omega, fun i hi => ?_⟩
  have := h2 i (by simpa using hi)
  unfold lastAt at this
  rw [List.getElem?_eq_getElem hi] at this
  exact eq_of_beq this
theorem inF_use {f : Func} {x : Ins} (h : inF f x = true) : ∀ v ∈ useS x, 0 ≤ v ∧ v < f.Kinds.length := by
  unfold inF at h
  rw [Bool.and_eq_true] at h
  intro v hv
  have := List.all_eq_true.1 h.1 v (by unfold touchS; exact List.mem_append.2 (.inl hv))
  unfold wI nQ at this
  have := of_decide_eq_true this
  omega
end Go.Pf
end
section
/- Kinds: whether an instruction's kinds fit: the same by the program and by the document. -/
namespace Go.Pf
open Go.Pp

def rowS (op i : Int) : Int := (ixL rowsL (op * 3 + i)).getD 0
def sgS (op : Int) : ByteArray := (portolanref08_signs op).getD ({ data := #[] } : ByteArray)
def sgA (op i : Int) : Int := (ixS (sgS op) i).getD 0
theorem row_fin : ∀ n : Fin 24, n.val ≠ 0 → ∀ i : Fin 3, ixL rowsL ((n.val : Int) * 3 + (i.val : Int)) = some (rowS n.val i.val) ∧ (rowS n.val i.val ≠ -1 → hasS n.val (if i.val = 0 then 68 else if i.val = 1 then 65 else 66) = true) := by decide +kernel
theorem sg_fin : ∀ n : Fin 24, n.val ≠ 0 → portolanref08_signs (n.val : Int) = some (sgS n.val) ∧ ∀ i : Fin 3, ixS (sgS n.val) (i.val : Int) = some (sgA n.val i.val) ∧ (sgA n.val i.val == 45) = (rowS n.val i.val == -1) ∧ (sgA n.val i.val ≠ 45 → portolanref08_map3 (sgA n.val i.val) = some (rowS n.val i.val)) := by decide +kernel
def colB (f : Func) (r v : Int) : Bool := r == -1 || (match ixL f.Kinds v with | some k => k == r | none => false)
def colV (x : Ins) (i : Nat) : Int := if i = 0 then x.D else if i = 1 then x.A else x.B
theorem col_in {f : Func} {x : Ins} (hin : inF f x = true) {n : Fin 24} (hz : n.val ≠ 0) (hn : x.Op = (n.val : Int)) {i : Fin 3} (h : rowS n.val i.val ≠ -1) : 0 ≤ colV x i.val ∧ colV x i.val < f.Kinds.length := by
  have hs := (row_fin n hz i).2 h
  have hm : colV x i.val ∈ touchS x := by
    unfold touchS useS setS colV
    rw [hn]
    match i, hs with
    | ⟨0, _⟩, hs => simp only [if_true] at hs; simp [hs]
    | ⟨1, _⟩, hs => simp at hs; simp [hs]
    | ⟨2, _⟩, hs => simp at hs; simp [hs]
  unfold inF at hin
  rw [Bool.and_eq_true] at hin
  have := List.all_eq_true.1 hin.1 _ hm
  unfold wI nQ at this
  have := of_decide_eq_true this
  omega
theorem fits_b1 {f : Func} {x : Ins} (hin : inF f x = true) {n : Fin 24} (hz : n.val ≠ 0) (hn : x.Op = (n.val : Int)) (i : Fin 3) :
    kind_Fits.b1 x f i.val () = some (if colB f (rowS n.val i.val) (colV x i.val) then .next () else .ret false) := by
  have e1 : ixL [x.D, x.A, x.B] ((i.val : Nat) : Int) = some (colV x i.val) := by
    match i with
    | ⟨0, _⟩ => rfl
    | ⟨1, _⟩ => rfl
    | ⟨2, _⟩ => rfl
  have e2 : chkB (decide (0 ≤ x.Op) && decide (x.Op < 24)) () = some () := by
    rw [hn]; have := n.isLt; simp [chkB]; omega
  have e3 : (if 0 ≤ ((i.val : Nat) : Int) ∧ ((i.val : Nat) : Int) < 3 then ixL rowsL (x.Op * 3 + ((i.val : Nat) : Int)) else none) = some (rowS n.val i.val) := by
    have := i.isLt
    rw [if_pos (by omega), hn, (row_fin n hz i).1]
  unfold kind_Fits.b1
  dsimp only
  rw [e1, Option.bind_some, e2, Option.bind_some, e3, Option.bind_some]
  unfold colB
  by_cases hr : rowS n.val i.val = -1
  · simp [hr]
  · obtain ⟨h0, h1⟩ := col_in hin hz hn hr
    have e := ixL_int h0 h1
    simp only [bne, beq_eq_false_iff_ne.2 hr, Bool.not_false, if_true, e, Option.bind_some, Bool.false_or]
    by_cases hb : (f.Kinds[(colV x i.val).toNat] == rowS n.val i.val) = true <;> simp [hb]
theorem is_r {f : Func} {x : Ins} (hin : inF f x = true) {n : Fin 24} (hz : n.val ≠ 0) (hn : x.Op = (n.val : Int)) (i : Fin 3) :
    (ixS (sgS n.val) (i.val : Int)).bind (fun s => portolanref08_is f (colV x i.val) s) = some (colB f (rowS n.val i.val) (colV x i.val)) := by
  obtain ⟨e1, e2, e3⟩ := (sg_fin n hz).2 i
  rw [e1, Option.bind_some]
  unfold portolanref08_is colB
  by_cases hr : rowS n.val i.val = -1
  · rw [e2]; simp [hr]
  · have hs : sgA n.val i.val ≠ 45 := by
      intro h; rw [h] at e2; simp at e2; exact hr (by first | exact e2 | exact e2.symm)
    obtain ⟨h0, h1⟩ := col_in hin hz hn hr
    have e := ixL_int h0 h1
    simp only [beq_eq_false_iff_ne.2 hs, beq_eq_false_iff_ne.2 hr, h0, h1, decide_true, if_true, e, Option.bind_some, e3 hs, Bool.false_or, Bool.false_eq_true, if_false]
theorem insS_parts {p : Prog} {fi : Int} {x : Ins} (h : insS p fi x = true) : ∃ (hf : 0 ≤ fi ∧ fi < p.Funcs.length), (∃ n : Fin 24, n.val ≠ 0 ∧ x.Op = (n.val : Int)) ∧ numS p x = true ∧ inF (p.Funcs[fi.toNat]'(by omega)) x = true := by
  unfold insS at h
  simp only [Bool.and_eq_true] at h
  obtain ⟨hw, hps, _, hnum, hm⟩ := h
  unfold wI nQ at hw
  have hw := of_decide_eq_true hw
  have hf : 0 ≤ fi ∧ fi < p.Funcs.length := by omega
  refine ⟨hf, ?_, hnum, ?_⟩
  · by_cases h0 : 0 ≤ x.Op ∧ x.Op < 24
    · obtain ⟨n, hn⟩ := fin_of h0
      refine ⟨n, fun h => ?_, hn⟩
      rw [hn, h] at hps
      revert hps; decide +kernel
    · rw [PS_out h0] at hps; simp at hps
  · rw [ixL_int hf.1 hf.2] at hm; exact hm
theorem has19 : hasS 19 76 = true ∧ hasS 19 68 = true ∧ hasS 2 68 = true ∧ hasS 2 65 = true ∧ hasS 15 68 = true ∧ hasS 16 68 = true ∧ hasS 16 65 = true ∧ hasS 23 65 = true := by decide +kernel
theorem in_D {f : Func} {x : Ins} (hin : inF f x = true) (h : hasS x.Op 68 = true) : 0 ≤ x.D ∧ x.D < f.Kinds.length := by
  unfold inF at hin
  rw [Bool.and_eq_true] at hin
  have := List.all_eq_true.1 hin.1 x.D (by unfold touchS setS; simp [h])
  unfold wI nQ at this
  have := of_decide_eq_true this
  omega
theorem in_A {f : Func} {x : Ins} (hin : inF f x = true) (h : hasS x.Op 65 = true) : 0 ≤ x.A ∧ x.A < f.Kinds.length := inF_use hin x.A (by unfold useS; simp [h])
theorem base_len {f : Func} (h : funcS f = true) : f.Base.length = f.Kinds.length ∧ f.Kinds.length ≤ 48 := by
  unfold funcS kindsS at h
  simp only [Bool.and_eq_true, decide_eq_true_eq] at h
  exact ⟨h.1.1.2, h.1.1.1⟩
theorem fits_k1 {p : Prog} {x : Ins} {f : Func} (hc : checkS p = true) (hx : okI0 x) (hf : funcS f = true) (hin : inF f x = true) (hnum : numS p x = true) : ∃ b, kind_Fits.k1 p x f = some b := by
  obtain ⟨hb, _⟩ := base_len hf
  unfold kind_Fits.k1
  split
  · rename_i h; have h := eq_of_beq h
    have hD := in_D hin (by rw [h]; exact has19.2.2.1)
    have hA := in_A hin (by rw [h]; exact has19.2.2.2.1)
    rw [ixL_int hD.1 hD.2, Option.bind_some, ixL_int hA.1 hA.2, Option.bind_some]
    split <;> exact ⟨_, rfl⟩
  split
  · rename_i h; have h := eq_of_beq h
    have hD := in_D hin (by rw [h]; exact has19.2.2.2.2.1)
    rw [ixL_int hD.1 (by rw [hb]; exact hD.2), Option.bind_some]; exact ⟨_, rfl⟩
  split
  · rename_i h; have h := eq_of_beq h
    have hD := in_D hin (by rw [h]; exact has19.2.2.2.2.2.1)
    have hA := in_A hin (by rw [h]; exact has19.2.2.2.2.2.2.1)
    rw [ixL_int hD.1 (by rw [hb]; exact hD.2), Option.bind_some, ixL_int hA.1 (by rw [hb]; exact hA.2), Option.bind_some]; exact ⟨_, rfl⟩
  split
  · rename_i h; have h := eq_of_beq h
    have hA := in_A hin (by rw [h]; exact has19.2.2.2.2.2.2.2)
    rw [ixL_int hA.1 hA.2, Option.bind_some]; exact ⟨_, rfl⟩
  split
  · rename_i h; have h := eq_of_beq h
    have hD := in_D hin (by rw [h]; exact has19.2.1)
    unfold numS at hnum
    rw [h] at hnum
    simp only [beq_self_eq_true, if_true, Bool.and_eq_true] at hnum
    obtain ⟨hN, hpar⟩ := hnum
    unfold wI nQ at hN
    have hN := of_decide_eq_true hN
    have hN2 : x.N < p.Funcs.length := by omega
    rw [ixL_int hN.1 hN2] at hpar ⊢
    rw [Option.bind_some]
    simp only [beq_iff_eq] at hpar
    have hg := (check_parts hc).1 x.N.toNat (by omega)
    have hgp := (func_blocks hg.1).2.1
    generalize p.Funcs[x.N.toNat]'(by omega) = g at *
    have hk : ixL f.Kinds x.D = some (f.Kinds[x.D.toNat]'(by omega)) := ixL_int hD.1 hD.2
    obtain ⟨o, ho, hq⟩ := forN_rule (R := Bool) (body := kind_Fits.b2 x f g) (n := x.Args.length) (s := ()) (fun _ _ => True) (fun o => ∃ b, aft (some o) (fun s => kind_Fits.k2 x f g) (fun r => some r) = some b) (by unfold okI0 at hx; omega) trivial
      (fun j _ hj _ => by
        have hu := inF_use hin (x.Args[j]) (by unfold useS; rw [h, has19.1]; simp)
        unfold kind_Fits.b2
        dsimp only
        rw [ixL_lt hj, Option.bind_some, ixL_int hu.1 hu.2, Option.bind_some, ixL_lt (show j < g.Kinds.length by omega), Option.bind_some]
        split
        · exact ⟨_, rfl, _, rfl⟩
        · exact ⟨_, rfl, trivial⟩)
      (fun _ _ => by simp only [aft, kind_Fits.k2, hk, Option.bind_some]; exact ⟨_, rfl⟩)
    rw [ho]; exact hq
  · exact ⟨_, rfl⟩
theorem fits_tail (p : Prog) (x : Ins) (f : Func) : portolanref08_Fits.j2 p x f false = kind_Fits.k1 p x f := by
  unfold portolanref08_Fits.j2 kind_Fits.k1
  simp only [Bool.false_eq_true, if_false]
  rfl
def fitS (p : Prog) (fi : Int) (x : Ins) : Bool := (kind_Fits p fi x).getD false
theorem fits_both {p : Prog} {fi : Int} {x : Ins} (hc : checkS p = true) (hx : okI0 x) (h : insS p fi x = true) : kind_Fits p fi x = some (fitS p fi x) ∧ portolanref08_Fits p fi x = some (fitS p fi x) := by
  obtain ⟨hf, ⟨n, hz, hn⟩, hnum, hin⟩ := insS_parts h
  have hfs := ((check_parts hc).1 fi.toNat (by omega)).1
  have e := ixL_int hf.1 hf.2
  generalize p.Funcs[fi.toNat]'(by omega) = f at *
  obtain ⟨b, hb⟩ := fits_k1 hc hx hfs hin hnum
  have hlt := n.isLt
  have c0 := fits_b1 hin hz hn ⟨0, by decide⟩
  have c1 := fits_b1 hin hz hn ⟨1, by decide⟩
  have c2 := fits_b1 hin hz hn ⟨2, by decide⟩
  have r0 := is_r hin hz hn ⟨0, by decide⟩
  have r1 := is_r hin hz hn ⟨1, by decide⟩
  have r2 := is_r hin hz hn ⟨2, by decide⟩
  have sg := (sg_fin n hz).1
  simp only [colV, if_true, show ¬ ((1 : Nat) = 0) by decide, show ¬ ((2 : Nat) = 0) by decide, show ¬ ((2 : Nat) = 1) by decide, if_false] at c0 c1 c2 r0 r1 r2
  have key : kind_Fits p fi x = some (colB f (rowS n.val ((0 : Nat) : Int)) x.D && colB f (rowS n.val ((1 : Nat) : Int)) x.A && colB f (rowS n.val ((2 : Nat) : Int)) x.B && b) ∧
      portolanref08_Fits p fi x = some (colB f (rowS n.val ((0 : Nat) : Int)) x.D && colB f (rowS n.val ((1 : Nat) : Int)) x.A && colB f (rowS n.val ((2 : Nat) : Int)) x.B && b) := by
    constructor
    · unfold kind_Fits
      rw [if_neg (by simp; omega), if_neg (by simp; omega), if_neg (by rw [hn]; simp), show decide (24 ≤ x.Op) = false by rw [hn]; simp; omega]
      simp only [kind_Fits.j1, Bool.false_eq_true, if_false, e, Option.bind_some]
      rw [show forN 3 (kind_Fits.b1 x f) () = forF (kind_Fits.b1 x f) 3 0 () from rfl]
      simp only [forF, c0]
      cases colB f (rowS n.val ((0 : Nat) : Int)) x.D
      · rfl
      simp only [if_true, Nat.zero_add, c1]
      cases colB f (rowS n.val ((1 : Nat) : Int)) x.A
      · rfl
      simp only [if_true, Nat.reduceAdd, c2]
      cases colB f (rowS n.val ((2 : Nat) : Int)) x.B
      · rfl
      simp only [if_true, aft, hb]; simp
    · unfold portolanref08_Fits
      rw [if_neg (by simp; omega), show decide ((p.Funcs.length : Int) ≤ fi) = false by simp; omega]
      simp only [portolanref08_Fits.j1, Bool.false_eq_true, if_false, e, Option.bind_some]
      rw [hn, sg, Option.bind_some, ← Option.bind_assoc]
      rw [show (ixS (sgS n.val) 0).bind (fun x_1 => portolanref08_is f x.D x_1) = _ from r0, Option.bind_some]
      cases colB f (rowS n.val ((0 : Nat) : Int)) x.D
      · simp [portolanref08_Fits.j2]
      simp only [if_true]
      rw [← Option.bind_assoc, show (ixS (sgS n.val) 1).bind (fun x_1 => portolanref08_is f x.A x_1) = _ from r1, Option.bind_some]
      cases colB f (rowS n.val ((1 : Nat) : Int)) x.A
      · simp [portolanref08_Fits.j2]
      simp only [if_true]
      rw [← Option.bind_assoc, show (ixS (sgS n.val) 2).bind (fun x_1 => portolanref08_is f x.B x_1) = _ from r2, Option.bind_some]
      cases colB f (rowS n.val ((2 : Nat) : Int)) x.B
      · simp [portolanref08_Fits.j2]
      simp only [Bool.not_true, fits_tail, hb]; simp
  have e2 : fitS p fi x = (colB f (rowS n.val ((0 : Nat) : Int)) x.D && colB f (rowS n.val ((1 : Nat) : Int)) x.A && colB f (rowS n.val ((2 : Nat) : Int)) x.B && b) := by unfold fitS; rw [key.1]; rfl
  rw [e2]; exact key
end Go.Pf
end
section
/- Kinds: the law of fitting. -/
namespace Go.Pf
open Go.Pp
theorem great08_t {p : Prog} (hp : okPr p) : ∃ b, portolanlaw08_great p = some b := by
  have h0 : okF0 p := hp.1
  unfold okF0 at h0
  obtain ⟨o, ho, s, hs⟩ := forN_rule (body := portolanlaw08_great.b1 p) (s := (0 : Int)) (n := p.Funcs.length) (fun _ x => True) (fun o => ∃ s, o = .next s ∨ o = .brk s) (by omega) trivial (fun j s hj hI => by
    simp only [portolanlaw08_great.b1]
    split
    · rw [ixL_lt hj, Option.bind_some]; exact ⟨_, rfl, trivial⟩
    · exact ⟨_, rfl, _, .inr rfl⟩) (fun s h => ⟨s, .inl rfl⟩)
  obtain ⟨b, hb⟩ := great_t hp
  unfold portolanlaw08_great
  have key : ∀ s, ∃ b, portolanlaw08_great.k1 p s = some b := fun s => by
    unfold portolanlaw08_great.k1
    split
    · exact ⟨_, rfl⟩
    · rw [hb]; exact ⟨_, rfl⟩
  rcases hs with rfl | rfl
  · rw [aft_next ho]; exact key s
  · rw [aft_brk ho]; exact key s
theorem KindFits_plain {p : Prog} {fi : Int} {x : Ins} (hp : okPr p) (hx : okI0 x) : portolanlaw08_KindFits p fi x = some true := by
  obtain ⟨g, hg⟩ := great08_t hp
  unfold portolanlaw08_KindFits portolanlaw08_alive
  simp only [Option.bind_some, if_true, hg, check_r hp, ins_r hp hx]
  cases g
  · cases hc : checkS p
    · simp [portolanlaw08_KindFits.j1]
    · cases hi : insS p fi x
      · simp [portolanlaw08_KindFits.j1]
      · obtain ⟨h1, h2⟩ := fits_both hc hx hi
        simp [portolanlaw08_KindFits.j1, h1, h2]
  · simp [portolanlaw08_KindFits.j1]
end Go.Pf
end
