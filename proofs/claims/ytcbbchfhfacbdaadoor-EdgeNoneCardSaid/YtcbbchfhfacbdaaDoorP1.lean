/- The plain law, part 1 -/
import Derived.Test.YtcbbchfhfacbdaaDoorU1
set_option linter.all false
section
/- Plain lemmas on the plain words: loops over lists, rows, whole numbers of 64 bits. -/
namespace Go.Pp
variable {α S R T : Type}

theorem forF_rule {body : Nat → S → Option (LR S R)} (I : Nat → S → Prop) (Q : LR S R → Prop) :
    ∀ (k i : Nat) (s : S), I i s →
    (∀ j s, i ≤ j → j < i + k → I j s → ∃ o, body j s = some o ∧ (match o with | .next s' => I (j+1) s' | .brk s' => Q (.brk s') | .ret r => Q (.ret r))) →
    (∀ s, I (i+k) s → Q (.next s)) → ∃ o, forF body k i s = some o ∧ Q o
  | 0, i, s, hI, _, he => ⟨.next s, rfl, he s hI⟩
  | k+1, i, s, hI, hs, he => by
    obtain ⟨o, ho, hm⟩ := hs i s (Nat.le_refl _) (by omega) hI
    unfold forF; rw [ho]
    cases o with
    | next s' => exact forF_rule I Q k (i+1) s' hm (fun j s h1 h2 => hs j s (by omega) (by omega)) (fun s h => he s (by rw [show i + (k+1) = i+1+k by omega]; exact h))
    | brk s' => exact ⟨_, rfl, hm⟩
    | ret r => exact ⟨_, rfl, hm⟩
theorem forN_rule {body : Nat → S → Option (LR S R)} (I : Nat → S → Prop) (Q : LR S R → Prop) {n : Nat} {s : S} (hn : n ≤ 4611686018427387904) (h0 : I 0 s)
    (hs : ∀ j s, j < n → I j s → ∃ o, body j s = some o ∧ (match o with | .next s' => I (j+1) s' | .brk s' => Q (.brk s') | .ret r => Q (.ret r)))
    (he : ∀ s, I n s → Q (.next s)) : ∃ o, forN (n : Int) body s = some o ∧ Q o := by
  unfold forN
  rw [if_pos (by omega), Int.toNat_natCast]
  exact forF_rule I Q n 0 s h0 (fun j s _ h => hs j s (by omega)) (by simpa using he)
theorem forN_zero {body : Nat → S → Option (LR S R)} {E : Int} (s : S) (h : E ≤ 0) : forN E body s = some (.next s) := by
  unfold forN; rw [if_pos (by omega), show E.toNat = 0 by omega]; rfl
theorem whileF_rule {body : S → Option (LR S R)} (I : S → Prop) (μ : S → Nat) (Q : LR S R → Prop)
    (hs : ∀ s, I s → ∃ o, body s = some o ∧ (match o with | .next s' => I s' ∧ μ s' < μ s | .brk s' => Q (.brk s') | .ret r => Q (.ret r))) :
    ∀ (k : Nat) (s : S), I s → μ s < k → ∃ o, whileF body k s = some o ∧ Q o
  | 0, s, _, h => by omega
  | k+1, s, hI, hk => by
    obtain ⟨o, ho, hm⟩ := hs s hI
    unfold whileF; rw [ho]
    cases o with
    | next s' => exact whileF_rule I μ Q hs k s' hm.1 (by have := hm.2; omega)
    | brk s' => exact ⟨_, rfl, hm⟩
    | ret r => exact ⟨_, rfl, hm⟩

/-- the first place that answers -/
def firstI (g : Nat → Option R) : Nat → Nat → Option R
  | 0, _ => none
  | k+1, i => match g i with | some r => some r | none => firstI g k (i+1)
def lrO : Option R → LR Unit R
  | none => .next ()
  | some r => .ret r
theorem forF_first {body : Nat → Unit → Option (LR Unit R)} {g : Nat → Option R} : ∀ (k i : Nat),
    (∀ j, i ≤ j → j < i + k → (∀ m, i ≤ m → m < j → g m = none) → body j () = some (lrO (g j))) → forF body k i () = some (lrO (firstI g k i))
  | 0, i, _ => rfl
  | k+1, i, h => by
    have h1 := h i (Nat.le_refl _) (by omega) (fun m _ _ => by omega)
    unfold forF firstI
    rw [h1]
    cases hg : g i with
    | some r => simp [lrO]
    | none =>
      simp only [lrO]
      exact forF_first k (i+1) (fun j h1 h2 h3 => h j (by omega) (by omega) (fun m hm1 hm2 => by
        by_cases hmi : m = i
        · subst hmi; exact hg
        · exact h3 m (by omega) hm2))
theorem firstI_none {g : Nat → Option R} : ∀ {k i : Nat}, firstI g k i = none ↔ ∀ j, i ≤ j → j < i + k → g j = none
  | 0, i => by simp [firstI]; omega
  | k+1, i => by
    unfold firstI
    cases hg : g i with
    | some r =>
      constructor
      · intro h; cases h
      · intro h; have := h i (by omega) (by omega); rw [hg] at this; cases this
    | none =>
      simp only [firstI_none (k := k)]
      constructor
      · intro h j h1 h2
        by_cases hj : j = i
        · subst hj; exact hg
        · exact h j (by omega) (by omega)
      · intro h j h1 h2; exact h j (by omega) (by omega)
/-- a loop that only looks, and may answer no -/
theorem forN_allI {body : Nat → Unit → Option (LR Unit R)} {p : Nat → Bool} {r : R} {n : Nat} (hn : n ≤ 4611686018427387904)
    (h : ∀ j, j < n → (∀ m, m < j → p m = true) → body j () = some (if p j then .next () else .ret r)) :
    forN (n : Int) body () = some (if (List.range n).all p then .next () else .ret r) := by
  obtain ⟨o, ho, hq⟩ := forN_rule (body := body) (s := ()) (n := n) (fun j _ => ∀ m, m < j → p m = true) (fun o => o = (if (List.range n).all p then .next () else .ret r)) hn (fun _ h => by omega)
    (fun j s hj hI => by
      refine ⟨_, h j hj hI, ?_⟩
      cases hp : p j
      · simp only [Bool.false_eq_true, ↓reduceIte]
        rw [if_neg]
        intro ha
        have := List.all_eq_true.1 ha j (by simpa using hj)
        rw [hp] at this; cases this
      · simp only [↓reduceIte]
        intro m hm
        by_cases hmj : m = j
        · subst hmj; exact hp
        · exact hI m (by omega))
    (fun s hI => by
      rw [if_pos]
      exact List.all_eq_true.2 fun x hx => hI x (by simpa using hx))
  rw [ho, hq]
theorem all_range {l : List α} {p : α → Bool} {q : Nat → Bool} (h : ∀ i x, l[i]? = some x → q i = p x) : (List.range l.length).all q = l.all p := by
  rw [Bool.eq_iff_iff, List.all_eq_true, List.all_eq_true]
  constructor
  · intro H x hx
    obtain ⟨i, hi, rfl⟩ := List.mem_iff_getElem.1 hx
    rw [← h i _ (List.getElem?_eq_getElem hi)]
    exact H i (by simpa using hi)
  · intro H i hi
    have hi' : i < l.length := by simpa using hi
    rw [h i _ (List.getElem?_eq_getElem hi')]
    exact H _ (List.getElem_mem hi')
theorem ixL_of {l : List α} {i : Nat} {x : α} (h : l[i]? = some x) : ixL l (i : Int) = some x := by
  unfold ixL; rw [if_pos (by omega), Int.toNat_natCast]; exact h
theorem ixL_lt {l : List α} {i : Nat} (h : i < l.length) : ixL l (i : Int) = some l[i] := ixL_of (List.getElem?_eq_getElem h)
theorem ixL_int {l : List α} {i : Int} (h0 : 0 ≤ i) (h : i < l.length) : ixL l i = some (l[i.toNat]'(by omega)) := by
  unfold ixL; rw [if_pos h0]; exact List.getElem?_eq_getElem (by omega)
theorem forN_all {l : List α} {body : Nat → Unit → Option (LR Unit R)} {p : α → Bool} {r : R} (hn : l.length ≤ 4611686018427387904)
    (h : ∀ i x, l[i]? = some x → body i () = some (if p x then .next () else .ret r)) :
    forN (l.length : Int) body () = some (if l.all p then .next () else .ret r) := by
  rw [← all_range (q := fun i => match l[i]? with | some x => p x | none => true) (fun i x hx => by simp [hx])]
  refine forN_allI hn fun j hj _ => ?_
  rw [h j _ (List.getElem?_eq_getElem hj)]
  simp [List.getElem?_eq_getElem hj]
theorem forN_any {l : List α} {body : Nat → Unit → Option (LR Unit R)} {p : α → Bool} {r : R} (hn : l.length ≤ 4611686018427387904)
    (h : ∀ i x, l[i]? = some x → body i () = some (if p x then .ret r else .next ())) :
    forN (l.length : Int) body () = some (if l.any p then .ret r else .next ()) := by
  rw [forN_all (p := fun x => !p x) (r := r) hn (fun i x hx => by rw [h i x hx]; cases p x <;> rfl)]
  rw [← List.not_any_eq_all_not]
  cases l.any p <;> rfl
/-- a loop that goes on to the end -/
theorem forN_fold {l : List α} {body : Nat → S → Option (LR S R)} {f : S → α → S} (P : Nat → S → Prop) {s : S} (hn : l.length ≤ 4611686018427387904) (h0 : P 0 s)
    (h : ∀ i x s, l[i]? = some x → P i s → body i s = some (.next (f s x)) ∧ P (i+1) (f s x)) :
    forN (l.length : Int) body s = some (.next (l.foldl f s)) ∧ P l.length (l.foldl f s) := by
  obtain ⟨o, ho, hq⟩ := forN_rule (body := body) (s := s) (n := l.length) (fun j s' => s' = (l.take j).foldl f s ∧ P j s') (fun o => o = .next (l.foldl f s) ∧ P l.length (l.foldl f s)) hn ⟨by simp, h0⟩
    (fun j s' hj hI => by
      have hx := List.getElem?_eq_getElem hj
      obtain ⟨h1, h2⟩ := h j _ s' hx hI.2
      refine ⟨_, h1, ?_, h2⟩
      rw [List.take_add_one, hx, List.foldl_append, ← hI.1]; rfl)
    (fun s' hI => by rw [List.take_length] at hI; exact ⟨by rw [hI.1], by rw [← hI.1]; exact hI.2⟩)
  exact ⟨by rw [ho, hq.1], hq.2⟩
/-- a loop that appends -/
theorem forN_app {l : List α} {β : Type} {body : Nat → List β → Option (LR (List β) R)} {g : α → List β} {s : List β} (K M : Nat) (hn : l.length ≤ 4611686018427387904)
    (hM : s.length + l.length * K ≤ M) (hg : ∀ x ∈ l, (g x).length ≤ K)
    (h : ∀ i x (s' : List β), l[i]? = some x → s'.length + K ≤ M → body i s' = some (.next (s' ++ g x))) :
    forN (l.length : Int) body s = some (.next (s ++ l.flatMap g)) ∧ (s ++ l.flatMap g).length ≤ s.length + l.length * K := by
  have := forN_fold (body := body) (f := fun s x => s ++ g x) (s := s) (fun i s' => s'.length ≤ s.length + i * K ∧ i ≤ l.length) hn ⟨by omega, by omega⟩ (fun i x s' hx hP => by
    have hi := (List.getElem?_eq_some_iff.1 hx).1
    have hm : i * K + K ≤ l.length * K := by have := Nat.mul_le_mul_right K (show i + 1 ≤ l.length from hi); rw [Nat.add_mul] at this; omega
    have hgx := hg x (List.mem_of_getElem? hx)
    refine ⟨h i x s' hx (by omega), ?_, by omega⟩
    rw [List.length_append, Nat.add_mul]; omega)
  have he : l.foldl (fun s x => s ++ g x) s = s ++ l.flatMap g := by
    clear this hM h hn hg
    induction l generalizing s with
    | nil => simp
    | cons a l ih => simp [ih]
  rw [he] at this
  exact ⟨this.1, this.2.1⟩
theorem appL_ok {b : Nat} {l r : List α} (h : (l.length + r.length) * b ≤ 140737488355328) : appL b l r = some (l ++ r) := by unfold appL; rw [if_pos h]
theorem tailL_ok {l : List α} {lo : Int} (h0 : 0 ≤ lo) (h : lo ≤ l.length) : tailL l lo = some (l.drop lo.toNat) := by unfold tailL; rw [if_pos ⟨h0, h⟩]
theorem headL_ok {l : List α} {lo : Int} (h0 : 0 ≤ lo) (h : lo ≤ l.length) : headL l lo = some (l.take lo.toNat) := by unfold headL; rw [if_pos ⟨h0, h⟩]
theorem cutL_ok {l : List α} {lo hi : Int} (h0 : 0 ≤ lo) (h1 : lo ≤ hi) (h2 : hi ≤ l.length) : cutL l lo hi = some ((l.drop lo.toNat).take (hi.toNat - lo.toNat)) := by unfold cutL; rw [if_pos ⟨h0, h1, h2⟩]
theorem w64_id {n : Int} (h1 : -9223372036854775808 ≤ n) (h2 : n ≤ 9223372036854775807) : w64 n = n := by unfold w64; simp only []; split <;> omega
theorem u64_id {n : Int} (h1 : 0 ≤ n) (h2 : n ≤ 18446744073709551615) : u64 n = n := by unfold u64; omega
theorem u8_id {n : Int} (h1 : 0 ≤ n) (h2 : n ≤ 255) : u8 n = n := by unfold u8; omega
theorem iteS {c : Prop} [Decidable c] {a b : α} : (if c then some a else some b) = some (if c then a else b) := by by_cases h : c <;> simp [h]
theorem aft_next {o : Option (LR S R)} {k : S → Option T} {r : R → Option T} {s : S} (h : o = some (.next s)) : aft o k r = k s := by rw [h]; rfl
theorem aft_brk {o : Option (LR S R)} {k : S → Option T} {r : R → Option T} {s : S} (h : o = some (.brk s)) : aft o k r = k s := by rw [h]; rfl
theorem aft_ret {o : Option (LR S R)} {k : S → Option T} {r : R → Option T} {s : R} (h : o = some (.ret s)) : aft o k r = r s := by rw [h]; rfl
theorem aft_if {c : Prop} [Decidable c] {o : Option (LR S R)} {k : S → Option T} {r : R → Option T} {s : S} {x : R} (h : o = some (if c then .next s else .ret x)) : aft o k r = if c then k s else r x := by
  rw [h]; by_cases hc : c <;> simp [hc, aft]
theorem aft_if2 {c : Prop} [Decidable c] {o : Option (LR S R)} {k : S → Option T} {r : R → Option T} {s : S} {x : R} (h : o = some (if c then .ret x else .next s)) : aft o k r = if c then r x else k s := by
  rw [h]; by_cases hc : c <;> simp [hc, aft]
/-- two rows, entry by entry -/
theorem forN_same {l m : List α} [DecidableEq α] {body : Nat → Unit → Option (LR Unit R)} {r : R} (hn : l.length ≤ 4611686018427387904) (hl : l.length = m.length)
    (h : ∀ i x y, l[i]? = some x → m[i]? = some y → body i () = some (if x = y then .next () else .ret r)) :
    forN (l.length : Int) body () = some (if l = m then .next () else .ret r) := by
  rw [forN_allI (p := fun i => decide (l[i]? = m[i]?)) (r := r) hn (fun j hj _ => by
    have hj2 : j < m.length := by omega
    rw [h j _ _ (List.getElem?_eq_getElem hj) (List.getElem?_eq_getElem hj2)]
    simp [List.getElem?_eq_getElem hj, List.getElem?_eq_getElem hj2])]
  congr 1
  have : ((List.range l.length).all fun i => decide (l[i]? = m[i]?)) = decide (l = m) := by
    rw [Bool.eq_iff_iff, List.all_eq_true, decide_eq_true_iff]
    constructor
    · intro H
      refine List.ext_getElem? fun i => ?_
      by_cases hi : i < l.length
      · simpa using H i (by simpa using hi)
      · rw [List.getElem?_eq_none (by omega), List.getElem?_eq_none (by omega)]
    · rintro rfl; simp
  rw [this]
  simp
end Go.Pp
end
section
/- Shapes: letters, bare, numbers, what an instruction reads and sets, where it goes: the same by the program and by the document. -/
namespace Go.Pf
open Go.Pp

/-- an operation's letters -/
def PS (op : Int) : ByteArray := (code_Parts op).getD ({ data := #[] } : ByteArray)
def hasS (op c : Int) : Bool := (sbytes (PS op)).contains c
theorem parts_fin : ∀ n : Fin 24, (code_Parts (n.val : Int)).isSome = true ∧ portolanref03_Parts (n.val : Int) = code_Parts (n.val : Int) := by decide +kernel
theorem parts_out {op : Int} (h : ¬ (0 ≤ op ∧ op < 24)) : code_Parts op = some ({ data := #[] } : ByteArray) ∧ portolanref03_Parts op = some ({ data := #[] } : ByteArray) := by
  constructor
  · unfold code_Parts
    by_cases h0 : op < 0
    · simp [h0]
    · have : 24 ≤ op := by omega
      simp [h0, this]
  · have e : ∀ k : Int, 0 ≤ k → k < 24 → (op == k) = false := fun k h1 h2 => by simp; omega
    simp [portolanref03_Parts, portolanref03_Parts.j1, portolanref03_Parts.j2, portolanref03_Parts.j3, portolanref03_Parts.j4, portolanref03_Parts.j5, e]
theorem fin_of {op : Int} (h : 0 ≤ op ∧ op < 24) : ∃ n : Fin 24, op = (n.val : Int) := ⟨⟨op.toNat, by omega⟩, by simp; omega⟩
theorem parts_c (op : Int) : code_Parts op = some (PS op) := by
  by_cases h : 0 ≤ op ∧ op < 24
  · obtain ⟨n, rfl⟩ := fin_of h
    have := (parts_fin n).1
    unfold PS
    cases hx : code_Parts (n.val : Int) with
    | none => rw [hx] at this; cases this
    | some x => rfl
  · unfold PS; rw [(parts_out h).1]; rfl
theorem parts_r (op : Int) : portolanref03_Parts op = some (PS op) := by
  by_cases h : 0 ≤ op ∧ op < 24
  · obtain ⟨n, rfl⟩ := fin_of h
    rw [(parts_fin n).2, parts_c]
  · unfold PS; rw [(parts_out h).1, (parts_out h).2]; rfl
theorem PS_out {op : Int} (h : ¬ (0 ≤ op ∧ op < 24)) : PS op = ({ data := #[] } : ByteArray) := by unfold PS; rw [(parts_out h).1]; rfl
def letters : List Int := [68, 65, 66, 78, 77, 110, 76]
theorem has_fin : ∀ n : Fin 24, ∀ c ∈ letters, portolanref04_has (n.val : Int) c = some (hasS (n.val : Int) c) ∧ shape_has (n.val : Int) c = some (hasS (n.val : Int) c) ∧ code_letters (n.val : Int) c = some (hasS (n.val : Int) c) := by decide +kernel
theorem any_fin : ∀ n : Fin 24, ∀ c ∈ letters, shape_hasAny (PS (n.val : Int)) ({ data := #[c.toNat.toUInt8] } : ByteArray) = some (hasS (n.val : Int) c) := by decide +kernel
theorem any2_fin : ∀ n : Fin 24, shape_hasAny (PS (n.val : Int)) ({ data := #[78, 110] } : ByteArray) = some (hasS (n.val : Int) 78 || hasS (n.val : Int) 110) := by decide +kernel
theorem has_e : ∀ c ∈ letters, aft (forN (ByteArray.size ({ data := #[] } : ByteArray) : Int) (portolanref04_has.b1 c ({ data := #[] } : ByteArray)) ()) (fun _ => portolanref04_has.k1) (fun r => some r) = some false ∧ (strings_IndexByte ({ data := #[] } : ByteArray) c).bind (fun x2 => some (decide (0 ≤ x2))) = some false ∧ (sbytes ({ data := #[] } : ByteArray)).contains c = false ∧ shape_hasAny ({ data := #[] } : ByteArray) ({ data := #[c.toNat.toUInt8] } : ByteArray) = some false ∧ shape_hasAny ({ data := #[] } : ByteArray) ({ data := #[78, 110] } : ByteArray) = some false := by decide +kernel
theorem has_all (op : Int) {c : Int} (hc : c ∈ letters) : portolanref04_has op c = some (hasS op c) ∧ shape_has op c = some (hasS op c) ∧ code_letters op c = some (hasS op c) ∧ shape_hasAny (PS op) ({ data := #[c.toNat.toUInt8] } : ByteArray) = some (hasS op c) ∧ shape_hasAny (PS op) ({ data := #[78, 110] } : ByteArray) = some (hasS op 78 || hasS op 110) := by
  by_cases h : 0 ≤ op ∧ op < 24
  · obtain ⟨n, rfl⟩ := fin_of h
    obtain ⟨h1, h2, h3⟩ := has_fin n c hc
    exact ⟨h1, h2, h3, any_fin n c hc, any2_fin n⟩
  · obtain ⟨h1, h2, h3, h4, h5⟩ := has_e c hc
    have hS : ∀ c ∈ letters, hasS op c = false := fun c hc => by unfold hasS; rw [PS_out h]; exact (has_e c hc).2.2.1
    rw [hS c hc, hS 78 (by decide), hS 110 (by decide)]
    refine ⟨?_, ?_, ?_, ?_, ?_⟩
    · unfold portolanref04_has; rw [(parts_out h).2, Option.bind_some]; exact h1
    · unfold shape_has; rw [(parts_out h).1, Option.bind_some]; exact h2
    · unfold code_letters; rw [(parts_out h).1, Option.bind_some]; exact h2
    · rw [PS_out h]; exact h4
    · rw [PS_out h]; exact h5
theorem has_r (op : Int) {c : Int} (hc : c ∈ letters := by decide) : portolanref04_has op c = some (hasS op c) := (has_all op hc).1
theorem has_s (op : Int) {c : Int} (hc : c ∈ letters := by decide) : shape_has op c = some (hasS op c) := (has_all op hc).2.1
theorem has_c (op : Int) {c : Int} (hc : c ∈ letters := by decide) : code_letters op c = some (hasS op c) := (has_all op hc).2.2.1

def wI (x lo hi : Int) : Bool := decide (lo ≤ x ∧ x ≤ hi)
theorem within_s (a b c : Int) : shape_within a b c = some (wI a b c) := by
  unfold shape_within wI; by_cases h : b ≤ a <;> simp [h]
theorem within_r (a b c : Int) : portolanref04_within a b c = some (wI a b c) := by
  unfold portolanref04_within wI; by_cases h : b ≤ a <;> simp [h]

def bareS (x : Ins) : Bool :=
  ((x.D == 0) || hasS x.Op 68) && ((x.A == 0) || hasS x.Op 65) && ((x.B == 0) || hasS x.Op 66) && ((x.N == 0) || (hasS x.Op 78 || hasS x.Op 110)) && ((x.M == 0) || hasS x.Op 77) && (((x.Args.length : Int) == 0) || hasS x.Op 76)
theorem bare1 {x : Ins} {v : Int} {s : ByteArray} {b : Bool} (h : shape_hasAny (PS x.Op) s = some b) : shape_bare_1 v s x = some (!((v == 0) || b)) := by
  unfold shape_bare_1
  rw [parts_c, Option.bind_some, h, Option.bind_some, bne]
  cases v == 0 <;> simp
theorem bare_s (x : Ins) : shape_bare x = some (bareS x) := by
  unfold shape_bare bareS
  have e (c : Int) (hc : c ∈ letters) (v : Int) : shape_bare_1 v ({ data := #[c.toNat.toUInt8] } : ByteArray) x = some (!((v == 0) || hasS x.Op c)) := bare1 (has_all x.Op hc).2.2.2.1
  rw [show shape_bare_1 x.D ({ data := #[68] } : ByteArray) x = _ from e 68 (by decide) _, show shape_bare_1 x.A ({ data := #[65] } : ByteArray) x = _ from e 65 (by decide) _, show shape_bare_1 x.B ({ data := #[66] } : ByteArray) x = _ from e 66 (by decide) _, show shape_bare_1 x.M ({ data := #[77] } : ByteArray) x = _ from e 77 (by decide) _, show shape_bare_1 (x.Args.length : Int) ({ data := #[76] } : ByteArray) x = _ from e 76 (by decide) _, bare1 (v := x.N) (has_all x.Op (c := 77) (by decide)).2.2.2.2]
  simp only [Option.bind_some]
  generalize ((x.D == 0) || hasS x.Op 68) = d1
  generalize ((x.A == 0) || hasS x.Op 65) = d2
  generalize ((x.B == 0) || hasS x.Op 66) = d3
  generalize ((x.N == 0) || (hasS x.Op 78 || hasS x.Op 110)) = d4
  generalize ((x.M == 0) || hasS x.Op 77) = d5
  generalize (((x.Args.length : Int) == 0) || hasS x.Op 76) = d6
  cases d1 <;> cases d2 <;> cases d3 <;> cases d4 <;> cases d5 <;> simp
theorem bare_r (x : Ins) : portolanref04_bare x = some (bareS x) := by
  unfold portolanref04_bare bareS
  simp only [has_r x.Op (c := 68), has_r x.Op (c := 65), has_r x.Op (c := 66), has_r x.Op (c := 78), has_r x.Op (c := 110), has_r x.Op (c := 77), has_r x.Op (c := 76), Option.bind_some]
  generalize (x.D == 0) = b1
  generalize hasS x.Op 68 = c1
  generalize (x.A == 0) = b2
  generalize hasS x.Op 65 = c2
  generalize (x.B == 0) = b3
  generalize hasS x.Op 66 = c3
  generalize (x.N == 0) = b4
  generalize hasS x.Op 78 = c4
  generalize hasS x.Op 110 = c5
  generalize (x.M == 0) = b5
  generalize hasS x.Op 77 = c6
  generalize ((x.Args.length : Int) == 0) = b6
  generalize hasS x.Op 76 = c7
  clear x
  revert b1 c1 b2 c2 b3 c3 b4 c4 c5 b5 c6 b6 c7
  decide +kernel

def nQ (n : Nat) : Int := (n : Int) - 1
theorem w64L {n : Nat} (h : n ≤ 281474976710656) : w64 ((n : Int) - 1) = nQ n := by unfold nQ; exact w64_id (by omega) (by omega)
def okF0 (p : Prog) : Prop := p.Funcs.length ≤ 281474976710656
def numS (p : Prog) (x : Ins) : Bool :=
  if x.Op == 19 then wI x.N 0 (nQ p.Funcs.length) && (match ixL p.Funcs x.N with | some f => (x.Args.length : Int) == f.Params | none => false)
  else if x.Op == 1 then wI x.N (-2147483648) 2147483648
  else if x.Op == 16 then wI x.N (-8) 8
  else if x.Op == 10 then wI x.N 0 8 && wI x.M 0 8
  else if x.Op == 11 || x.Op == 12 || x.Op == 13 || x.Op == 14 || x.Op == 15 then wI x.N 0 7
  else true
theorem ixL_in {α : Type} {l : List α} {i : Int} (h : wI i 0 (nQ l.length) = true) : ∃ x, ixL l i = some x ∧ x ∈ l := by
  unfold wI nQ at h
  have h := of_decide_eq_true h
  exact ⟨_, ixL_int h.1 (by omega), List.getElem_mem _⟩
theorem num_s {p : Prog} {x : Ins} (h : okF0 p) : shape_numbers p x = some (numS p x) := by
  unfold shape_numbers numS shape_numbers.j1
  simp only [within_s, Option.bind_some, w64L h]
  cases h1 : x.Op == 19
  · cases h2 : x.Op == 1 <;> cases h3 : x.Op == 16 <;> cases h4 : x.Op == 10 <;> cases h5 : x.Op == 11 <;> cases h6 : x.Op == 12 <;> cases h7 : x.Op == 13 <;> cases h8 : x.Op == 14 <;> simp [iteS]
    all_goals cases wI x.N 0 8 <;> simp
  · cases hw : wI x.N 0 (nQ p.Funcs.length)
    · simp
    · obtain ⟨f, hf, _⟩ := ixL_in hw
      simp [hf]
theorem num_r {p : Prog} {x : Ins} (h : okF0 p) : portolanref04_Ins.k2 p x = some (numS p x) := by
  unfold portolanref04_Ins.k2 numS portolanref04_Ins.j3
  simp only [within_r, Option.bind_some, w64L h]
  cases h1 : x.Op == 19
  · cases h2 : x.Op == 1 <;> cases h3 : x.Op == 16 <;> cases h4 : x.Op == 10 <;> cases h5 : x.Op == 11 <;> cases h6 : x.Op == 12 <;> cases h7 : x.Op == 13 <;> cases h8 : x.Op == 14 <;> simp [iteS]
    all_goals cases wI x.N 0 8 <;> simp
  · cases hw : wI x.N 0 (nQ p.Funcs.length)
    · simp
    · obtain ⟨f, hf, _⟩ := ixL_in hw
      simp [hf]

def lastS (op : Int) : Bool := wI op 21 23
theorem last_s (op : Int) : shape_Last op = some (lastS op) := by unfold shape_Last; rw [within_s]; rfl
theorem last_r (op : Int) : portolanref04_Last op = some (lastS op) := by
  unfold portolanref04_Last lastS wI
  by_cases h1 : op = 21
  · simp [h1]
  · by_cases h2 : op = 22
    · simp [h2]
    · by_cases h3 : op = 23
      · simp [h3]
      · have : ¬ (21 ≤ op ∧ op ≤ 23) := by omega
        simp [h1, h2, h3, this]
def setS (x : Ins) : Int × Bool := if hasS x.Op 68 then (x.D, true) else (0, false)
theorem sets_s (x : Ins) : shape_Sets x = some (setS x) := by unfold shape_Sets code_Sets setS; rw [has_c, Option.bind_some]; cases hasS x.Op 68 <;> simp
theorem sets_r (x : Ins) : portolanref04_Sets x = some (setS x) := by unfold portolanref04_Sets setS; rw [has_r]; cases hasS x.Op 68 <;> simp
def useS (x : Ins) : List Int := (if hasS x.Op 65 then [x.A] else []) ++ (if hasS x.Op 66 then [x.B] else []) ++ (if hasS x.Op 76 then x.Args else [])
def okI0 (x : Ins) : Prop := x.Args.length ≤ 17592186043904
theorem use_s {x : Ins} (h : okI0 x) : shape_Uses x = some (useS x) := by
  unfold okI0 at h
  unfold shape_Uses shape_Uses.j1 shape_Uses.j2 useS
  simp only [has_s x.Op (c := 65), has_s x.Op (c := 66), has_s x.Op (c := 76), Option.bind_some]
  cases hasS x.Op 65 <;> cases hasS x.Op 66 <;> cases hasS x.Op 76 <;> simp [appL] <;> omega
theorem use_r {x : Ins} (h : okI0 x) : portolanref04_Uses x = some (useS x) := by
  unfold okI0 at h
  unfold portolanref04_Uses portolanref04_Uses.j1 portolanref04_Uses.j2 useS
  simp only [has_r x.Op (c := 65), has_r x.Op (c := 66), has_r x.Op (c := 76), Option.bind_some]
  cases hasS x.Op 65 <;> cases hasS x.Op 66 <;> cases hasS x.Op 76 <;> simp [appL] <;> omega
theorem use_len {x : Ins} (h : okI0 x) : (useS x).length ≤ 17592186043906 := by
  unfold okI0 at h
  unfold useS
  cases hasS x.Op 65 <;> cases hasS x.Op 66 <;> cases hasS x.Op 76 <;> simp <;> omega
def nextS (x : Ins) : List Int := if x.Op == 21 then [x.N] else if x.Op == 22 then (if x.N = x.M then [x.N] else if x.N < x.M then [x.N, x.M] else [x.M, x.N]) else []
theorem sort2p (a b : Int) : [a, b].mergeSort (fun x y => decide (x ≤ y)) = if a ≤ b then [a, b] else [b, a] := by
  simp [List.mergeSort, List.MergeSort.Internal.splitInTwo, List.merge]
theorem compact2 (a b : Int) : Go.Lib.compactUpTo #[a, b] 2 = if a = b then [a] else [a, b] := by
  by_cases h : a = b
  · simp [Go.Lib.compactUpTo, Go.Lib.keeps, List.range_succ, h]
  · simp [Go.Lib.compactUpTo, Go.Lib.keeps, List.range_succ, h, Ne.symm h]
theorem compact1 (a : Int) : Go.Lib.compactUpTo #[a] 1 = [a] := by
  simp [Go.Lib.compactUpTo, Go.Lib.keeps, List.range_succ]
theorem compact0 : Go.Lib.compactUpTo (#[] : Array Int) 0 = [] := by
  simp [Go.Lib.compactUpTo]
theorem next_s (x : Ins) : shape_Next x = some (nextS x) := by
  unfold shape_Next nextS shape_Next.j1 slices_Sort_int slices_Compact_int
  by_cases h1 : x.Op = 22
  · simp only [h1, sort2p]
    rcases Int.lt_trichotomy x.N x.M with h | h | h
    · have : x.N ≤ x.M := by omega
      have : x.N ≠ x.M := by omega
      simp [*, Go.Lib.compact, compact2]
    · simp [*, Go.Lib.compact, compact2]
    · have : ¬ x.N ≤ x.M := by omega
      have : ¬ x.N < x.M := by omega
      have : x.N ≠ x.M := by omega
      have : x.M ≠ x.N := by omega
      simp [*, Go.Lib.compact, compact2]
  · by_cases h2 : x.Op = 21
    · simp [h2, Go.Lib.compact, compact1]
    · simp [h1, h2, Go.Lib.compact, compact0]
theorem next_r (x : Ins) : portolanref04_Next x = some (nextS x) := by
  unfold portolanref04_Next nextS
  by_cases h2 : x.Op = 21
  · simp [h2]
  · by_cases h1 : x.Op = 22
    · simp only [h1]
      rcases Int.lt_trichotomy x.N x.M with h | h | h
      · have : ¬ x.M < x.N := by omega
        have : x.N ≠ x.M := by omega
        simp [*]
      · simp [*]
      · have : ¬ x.N < x.M := by omega
        have : x.N ≠ x.M := by omega
        simp [*]
    · simp [h1, h2]
theorem next_len (x : Ins) : (nextS x).length ≤ 2 := by unfold nextS; (repeat' split) <;> simp
end Go.Pf
end
section
/- Shapes: which function may be, by the program and by the document. -/
namespace Go.Pf
open Go.Pp

theorem iteB (b : Bool) : (if b = true then some true else some false) = some b := by cases b <;> rfl
/-- the first place in a row that a test takes -/
theorem findL {α : Type} {l : List α} {body : Nat → Unit → Option (LR Unit Int)} {p : α → Bool} (hn : l.length ≤ 4611686018427387904)
    (h : ∀ (j : Nat) (hj : j < l.length), body j () = some (if p l[j] then .ret (j : Int) else .next ())) :
    ∃ o, forN (l.length : Int) body () = some o ∧ ((o = .next () ∧ ∀ m (hm : m < l.length), p l[m] = false) ∨ (∃ (i : Nat) (hi : i < l.length), o = .ret (i : Int) ∧ p l[i] = true ∧ ∀ m (hm : m < l.length), m < i → p l[m] = false)) := by
  refine forN_rule (body := body) (s := ()) (n := l.length) (fun j _ => ∀ m (hm : m < l.length), m < j → p l[m] = false) _ hn (fun _ _ h => by omega) (fun j s hj hI => ?_) (fun s hI => .inl ⟨rfl, fun m hm => hI m hm hm⟩)
  rw [show s = () from rfl, h j hj]
  cases hp : p l[j]
  · refine ⟨_, rfl, fun m hm hmj => ?_⟩
    by_cases e : m = j
    · subst e; exact hp
    · exact hI m hm (by omega)
  · exact ⟨_, rfl, .inr ⟨j, hj, rfl, hp, hI⟩⟩
theorem anyL {α : Type} {l : List α} {p : α → Bool} {o : LR Unit Int} (h : (o = .next () ∧ ∀ m (hm : m < l.length), p l[m] = false) ∨ (∃ (i : Nat) (hi : i < l.length), o = .ret (i : Int) ∧ p l[i] = true ∧ ∀ m (hm : m < l.length), m < i → p l[m] = false)) :
    (o = .next () ∧ l.any p = false) ∨ (∃ i : Nat, o = .ret (i : Int) ∧ l.any p = true) := by
  rcases h with ⟨h1, h2⟩ | ⟨i, hi, h1, h2, _⟩
  · refine .inl ⟨h1, ?_⟩
    rw [← Bool.not_eq_true, List.any_eq_true]
    rintro ⟨x, hx, hp⟩
    obtain ⟨i, hi, rfl⟩ := List.mem_iff_getElem.1 hx
    rw [h2 i hi] at hp; cases hp
  · exact .inr ⟨i, h1, List.any_eq_true.2 ⟨_, List.getElem_mem hi, h2⟩⟩
theorem contInt {l : List Int} {a : Int} (hn : l.length ≤ 4611686018427387904) : slices_Contains_int l a = some (l.any (fun x => a == x)) := by
  obtain ⟨o, ho, hq⟩ := findL (l := l) (body := slices_Index_int.b1 l a) (p := fun x => a == x) hn (fun j hj => by
    simp only [slices_Index_int.b1, ixL_lt hj, Option.bind_some]; split <;> rfl)
  unfold slices_Contains_int slices_Index_int
  rcases anyL hq with ⟨rfl, h⟩ | ⟨i, rfl, h⟩
  · rw [aft_next ho, h]; rfl
  · rw [aft_ret ho, h]; simp
theorem containsBlock {l : List Block} {f : Block → Option Bool} {p : Block → Bool} (hn : l.length ≤ 4611686018427387904) (h : ∀ x ∈ l, f x = some (p x)) : slices_ContainsFunc_Block l f = some (l.any p) := by
  obtain ⟨o, ho, hq⟩ := findL (l := l) (body := slices_IndexFunc_Block.b1 l f) (p := p) hn (fun j hj => by
    simp only [slices_IndexFunc_Block.b1, ixL_lt hj, Option.bind_some, h _ (List.getElem_mem hj)]; split <;> rfl)
  unfold slices_ContainsFunc_Block slices_IndexFunc_Block
  rcases anyL hq with ⟨rfl, h⟩ | ⟨i, rfl, h⟩
  · rw [aft_next ho, h]; rfl
  · rw [aft_ret ho, h]; simp
theorem containsInt {l : List Int} {f : Int → Option Bool} {p : Int → Bool} (hn : l.length ≤ 4611686018427387904) (h : ∀ x ∈ l, f x = some (p x)) : slices_ContainsFunc_int l f = some (l.any p) := by
  obtain ⟨o, ho, hq⟩ := findL (l := l) (body := slices_IndexFunc_int.b1 l f) (p := p) hn (fun j hj => by
    simp only [slices_IndexFunc_int.b1, ixL_lt hj, Option.bind_some, h _ (List.getElem_mem hj)]; split <;> rfl)
  unfold slices_ContainsFunc_int slices_IndexFunc_int
  rcases anyL hq with ⟨rfl, h⟩ | ⟨i, rfl, h⟩
  · rw [aft_next ho, h]; rfl
  · rw [aft_ret ho, h]; simp
theorem containsIns {l : List Ins} {f : Ins → Option Bool} {p : Ins → Bool} (hn : l.length ≤ 4611686018427387904) (h : ∀ x ∈ l, f x = some (p x)) : slices_ContainsFunc_Ins l f = some (l.any p) := by
  obtain ⟨o, ho, hq⟩ := findL (l := l) (body := slices_IndexFunc_Ins.b1 l f) (p := p) hn (fun j hj => by
    simp only [slices_IndexFunc_Ins.b1, ixL_lt hj, Option.bind_some, h _ (List.getElem_mem hj)]; split <;> rfl)
  unfold slices_ContainsFunc_Ins slices_IndexFunc_Ins
  rcases anyL hq with ⟨rfl, h⟩ | ⟨i, rfl, h⟩
  · rw [aft_next ho, h]; rfl
  · rw [aft_ret ho, h]; simp

def lastAt (b : Block) (i : Nat) : Bool := match b.Code[i]? with
  | some x => lastS x.Op == ((i : Int) == nQ b.Code.length)
  | none => false
def blockS (b : Block) : Bool := wI b.Code.length 1 40 && (List.range b.Code.length).all (lastAt b)
theorem block_s {b : Block} (h : b.Code.length ≤ 281474976710656) : shape_block b = some (blockS b) := by
  unfold shape_block blockS
  rw [within_s, Option.bind_some]
  cases hw : wI b.Code.length 1 40
  · simp
  simp only [↓reduceIte, Bool.true_and]
  have hlen : 1 ≤ b.Code.length := by unfold wI at hw; have := of_decide_eq_true hw; omega
  obtain ⟨o, ho, hq⟩ := findL (l := b.Code) (body := slices_IndexFunc_Ins.b1 b.Code shape_block_1) (p := fun x => lastS x.Op) (by omega) (fun j hj => by
    simp only [slices_IndexFunc_Ins.b1, ixL_lt hj, Option.bind_some, shape_block_1, last_s]; split <;> rfl)
  unfold slices_IndexFunc_Ins
  rw [w64L h]
  have key : ∀ c : Bool, (c = true ↔ ∀ m (hm : m < b.Code.length), lastS b.Code[m].Op = decide (m = b.Code.length - 1)) → c = (List.range b.Code.length).all (lastAt b) := by
    intro c hc
    rw [Bool.eq_iff_iff, hc, List.all_eq_true]
    constructor
    · intro H m hm
      have hm : m < b.Code.length := by simpa using hm
      unfold lastAt nQ
      rw [List.getElem?_eq_getElem hm]
      simp only [H m hm, beq_iff_eq]
      rw [Bool.eq_iff_iff]; simp; omega
    · intro H m hm
      have := H m (by simpa using hm)
      unfold lastAt nQ at this
      rw [List.getElem?_eq_getElem hm] at this
      simp only [beq_iff_eq] at this
      rw [this, Bool.eq_iff_iff]; simp; omega
  rcases hq with ⟨rfl, hq⟩ | ⟨i, hi, rfl, h1, h2⟩
  · rw [aft_next ho]
    simp only [slices_IndexFunc_Ins.k1, Option.bind_some]
    congr 1
    refine key _ ⟨fun hc => ?_, fun hc => ?_⟩
    · unfold nQ at hc; simp at hc; omega
    · have := hc (b.Code.length - 1) (by omega); rw [hq] at this; simp at this
  · rw [aft_ret ho]
    simp only [Option.bind_some]
    congr 1
    refine key _ ⟨fun hc m hm => ?_, fun hc => ?_⟩
    · unfold nQ at hc
      have hc : (i : Int) = (b.Code.length : Int) - 1 := by simpa using hc
      by_cases hmi : m = i
      · subst hmi; rw [h1, eq_comm, decide_eq_true_iff]; omega
      · rw [h2 m hm (by omega), eq_comm, decide_eq_false_iff_not]; omega
    · have := hc i hi
      rw [h1, eq_comm, decide_eq_true_iff] at this
      unfold nQ; simp; omega
theorem block_r {a : Func} {b : Block} {i : Nat} (hb : a.Blocks[i]? = some b) (h : b.Code.length ≤ 281474976710656) : portolanref04_Func.b2 a i () = some (if blockS b then .next () else .ret false) := by
  unfold portolanref04_Func.b2 blockS
  simp only [ixL_of hb, Option.bind_some, within_r]
  cases hw : wI b.Code.length 1 40
  · simp
  simp only [↓reduceIte, Bool.true_and]
  rw [aft_if (forN_allI (p := lastAt b) (r := false) (by omega) (fun j hj _ => by
    simp only [portolanref04_Func.b3, ixL_lt hj, Option.bind_some, last_r, w64L h, lastAt, List.getElem?_eq_getElem hj]; split <;> simp_all))]
  simp only [portolanref04_Func.k3, iteS]

def entB (f : Func) (k b : Int) : Bool := if k == 2 then wI b 0 (nQ f.Kinds.length) && (match ixL f.Kinds b with | some k' => k' == 1 | none => false) else (k == 0 || k == 1) && b == -1
def entS (f : Func) (i : Nat) : Bool := match f.Kinds[i]?, f.Base[i]? with
  | some k, some b => entB f k b
  | _, _ => false
def okF1 (f : Func) : Prop := f.Kinds.length ≤ 281474976710656 ∧ f.Base.length ≤ 281474976710656 ∧ f.Blocks.length ≤ 281474976710656 ∧ ∀ b ∈ f.Blocks, b.Code.length ≤ 281474976710656
def kindsS (f : Func) : Bool := decide (f.Kinds.length ≤ 48) && decide (f.Base.length = f.Kinds.length) && (List.range f.Kinds.length).all (entS f)
theorem kinds_s {f : Func} (h : okF1 f) : shape_kinds f = some (kindsS f) := by
  unfold shape_kinds kindsS shape_kinds.j1
  by_cases h48 : f.Kinds.length ≤ 48
  · have e1 : ¬ (48 < (f.Kinds.length : Int)) := by omega
    by_cases hb : f.Base.length = f.Kinds.length
    · have e2 : ((f.Base.length : Int) != (f.Kinds.length : Int)) = false := by simp [hb]
      simp only [e1, decide_false, Bool.false_eq_true, ↓reduceIte, e2, h48, hb, decide_true, Bool.true_and]
      rw [aft_if (forN_allI (p := entS f) (r := false) (by omega) (fun j hj _ => by
        have hj2 : j < f.Base.length := by omega
        simp only [shape_kinds.b1, ixL_lt hj, ixL_lt hj2, Option.bind_some, entS, List.getElem?_eq_getElem hj, List.getElem?_eq_getElem hj2, shape_kinds.j2, within_s, w64L h.1, entB]
        generalize f.Kinds[j] = k
        generalize f.Base[j] = b
        by_cases k0 : k = 0
        · by_cases b1 : b = -1 <;> simp [k0, b1]
        · by_cases k1 : k = 1
          · by_cases b1 : b = -1 <;> simp [k1, b1]
          · by_cases k2 : k = 2
            · simp only [k2]
              cases hw : wI b 0 (nQ f.Kinds.length)
              · simp
              · obtain ⟨x, hx, _⟩ := ixL_in hw
                by_cases hx1 : x = 1 <;> simp [hx, hx1]
            · simp [k0, k1, k2]))]
      simp only [shape_kinds.k1, iteB]
      simp
    · have e2 : ((f.Base.length : Int) != (f.Kinds.length : Int)) = true := by simp; omega
      simp [e1, e2, hb]
  · have e1 : (48 < (f.Kinds.length : Int)) := by omega
    simp [e1, h48]
def parS (f : Func) : Bool := (List.range f.Kinds.length).all fun i => match f.Kinds[i]? with | some k => !(decide ((i : Int) < f.Params) && k == 2) | none => true
def funcS (f : Func) : Bool := kindsS f && (wI f.Params 0 (if (f.Kinds.length : Int) < 4 then (f.Kinds.length : Int) else 4) && (parS f && (wI f.Result 0 1 && (wI f.Blocks.length 1 40 && f.Blocks.all blockS))))
theorem par_s {f : Func} (h : okF1 f) (hp : wI f.Params 0 (if (f.Kinds.length : Int) < 4 then (f.Kinds.length : Int) else 4) = true) : (headL f.Kinds f.Params).bind (fun l => slices_Contains_int l 2) = some (!parS f) := by
  unfold wI at hp
  have hp := of_decide_eq_true hp
  have hk := h.1
  have hl : f.Params ≤ f.Kinds.length := by split at hp <;> omega
  rw [headL_ok hp.1 hl, Option.bind_some, contInt (by simp; omega)]
  congr 1
  unfold parS
  rw [Bool.eq_iff_iff, List.any_eq_true]
  simp only [Bool.not_eq_true', ← Bool.not_eq_true, List.all_eq_true]
  constructor
  · rintro ⟨x, hx, h2⟩ H
    obtain ⟨i, hi, rfl⟩ := List.mem_iff_getElem.1 hx
    rw [List.length_take] at hi
    have hi2 : i < f.Kinds.length := by omega
    have := H i (by simpa using hi2)
    rw [List.getElem?_eq_getElem hi2] at this
    simp at this h2
    rcases this with h3 | h3
    · omega
    · exact h3 h2.symm
  · intro H
    by_cases hc : ∃ x, x ∈ List.take f.Params.toNat f.Kinds ∧ (2 == x) = true
    · exact hc
    · exfalso; apply H
      intro i hi
      have hi : i < f.Kinds.length := by simpa using hi
      rw [List.getElem?_eq_getElem hi]
      simp only [Bool.not_eq_true', Bool.and_eq_false_iff, decide_eq_false_iff_not]
      by_cases hip : (i : Int) < f.Params
      · right
        rw [← Bool.not_eq_true]; intro h2
        refine hc ⟨f.Kinds[i], ?_, by simp at h2 ⊢; omega⟩
        have hlt : i < (List.take f.Params.toNat f.Kinds).length := by rw [List.length_take]; omega
        have := List.getElem_mem hlt
        rwa [List.getElem_take] at this
      · exact .inl hip
theorem func_s {f : Func} (h : okF1 f) : shape_Func f = some (funcS f) := by
  unfold shape_Func funcS
  rw [kinds_s h, Option.bind_some]
  cases kindsS f
  · simp [shape_Func.j1]
  simp only [↓reduceIte, within_s, Option.bind_some, Bool.true_and]
  cases hp : wI f.Params 0 (if (f.Kinds.length : Int) < 4 then (f.Kinds.length : Int) else 4)
  · simp [shape_Func.j1]
  simp only [Bool.not_true, shape_Func.j1, Bool.false_eq_true, ↓reduceIte, Bool.true_and]
  have hps := par_s h hp
  obtain ⟨l, hl, hc⟩ := Option.bind_eq_some_iff.1 hps
  rw [hl, Option.bind_some, hc, Option.bind_some]
  cases parS f
  · simp [shape_Func.j2]
  simp only [Bool.not_true, Bool.false_eq_true, ↓reduceIte, Bool.true_and, within_s, Option.bind_some]
  cases wI f.Result 0 1
  · simp [shape_Func.j2]
  simp only [Bool.not_true, Bool.false_eq_true, ↓reduceIte, Bool.true_and, within_s, Option.bind_some, shape_Func.j2]
  cases wI f.Blocks.length 1 40
  · simp
  rw [containsBlock (p := fun b => !blockS b) (by have := h.2.2.1; omega) (fun b hb => by unfold shape_Func_1; rw [block_s (h.2.2.2 b hb)]; rfl)]
  simp [List.not_any_eq_all_not]
theorem func_r {f : Func} (h : okF1 f) : portolanref04_Func f = some (funcS f) := by
  have hall : f.Base.length = f.Kinds.length → f.Kinds.length ≤ 48 → portolanref04_Func.j1 f false = some ((List.range f.Kinds.length).all (entS f) && (parS f && f.Blocks.all blockS)) := by
    intro hb hk
    unfold portolanref04_Func.j1
    simp only [Bool.false_eq_true, ↓reduceIte]
    rw [aft_if (forN_allI (p := fun i => entS f i && (match f.Kinds[i]? with | some k => !(decide ((i : Int) < f.Params) && k == 2) | none => true)) (r := false) (by omega) (fun j hj _ => by
      have hj2 : j < f.Base.length := by omega
      simp only [portolanref04_Func.b1, portolanref04_Func.j2, ixL_lt hj, ixL_lt hj2, Option.bind_some, entS, List.getElem?_eq_getElem hj, List.getElem?_eq_getElem hj2, within_r, w64L h.1, entB]
      generalize f.Kinds[j] = k
      generalize f.Base[j] = b
      by_cases k0 : k = 0
      · by_cases b1 : b = -1 <;> simp [k0, b1, wI]
      · by_cases k1 : k = 1
        · by_cases b1 : b = -1 <;> simp [k1, b1, wI]
        · by_cases k2 : k = 2
          · simp only [k2]
            by_cases hp : (j : Int) < f.Params
            · simp [hp, wI]
            · rw [show wI 2 0 2 = true by decide]
              cases hw : wI b 0 (nQ f.Kinds.length)
              · simp [hp]
              · obtain ⟨x, hx, _⟩ := ixL_in hw
                by_cases hx1 : x = 1 <;> simp [hx, hx1, hp]
          · have : wI k 0 2 = false := by unfold wI; rw [decide_eq_false_iff_not]; omega
            simp [k0, k1, k2, this]))]
    have e : ((List.range f.Kinds.length).all fun i => entS f i && (match f.Kinds[i]? with | some k => !(decide ((i : Int) < f.Params) && k == 2) | none => true)) = ((List.range f.Kinds.length).all (entS f) && parS f) := by
      unfold parS
      rw [Bool.eq_iff_iff, Bool.and_eq_true, List.all_eq_true, List.all_eq_true, List.all_eq_true]
      simp only [Bool.and_eq_true]
      exact ⟨fun H => ⟨fun x hx => (H x hx).1, fun x hx => (H x hx).2⟩, fun H x hx => ⟨H.1 x hx, H.2 x hx⟩⟩
    rw [e]
    have e2 : portolanref04_Func.k1 f = some (f.Blocks.all blockS) := by
      unfold portolanref04_Func.k1
      rw [aft_if (forN_all (p := blockS) (r := false) (by have := h.2.2.1; omega) (fun i b hb => block_r hb (h.2.2.2 b (List.mem_of_getElem? hb))))]
      simp only [portolanref04_Func.k2, iteB]
    rw [e2]
    cases (List.range f.Kinds.length).all (entS f) <;> cases parS f <;> simp
  unfold portolanref04_Func funcS kindsS
  simp only [within_r, Option.bind_some]
  by_cases h48 : f.Kinds.length ≤ 48
  · have e1 : ¬ (48 < (f.Kinds.length : Int)) := by omega
    by_cases hb : f.Base.length = f.Kinds.length
    · have e2 : ((f.Base.length : Int) != (f.Kinds.length : Int)) = false := by simp [hb]
      simp only [e1, decide_false, Bool.false_eq_true, ↓reduceIte, e2]
      cases wI f.Params 0 (if (f.Kinds.length : Int) < 4 then (f.Kinds.length : Int) else 4)
      · simp [portolanref04_Func.j1]
      cases wI f.Result 0 1
      · simp [portolanref04_Func.j1]
      cases wI f.Blocks.length 1 40
      · simp [portolanref04_Func.j1]
      simp only [↓reduceIte, Bool.not_true, hall hb h48]
      simp [h48, hb]
    · have e2 : ((f.Base.length : Int) != (f.Kinds.length : Int)) = true := by simp; omega
      simp [e1, e2, hb, portolanref04_Func.j1]
  · have e1 : (48 < (f.Kinds.length : Int)) := by omega
    simp [e1, h48, portolanref04_Func.j1]
end Go.Pf
end
section
/- Shapes: which instruction and which program may be, by the program and by the document; the size of a program. -/
namespace Go.Pf
open Go.Pp

def okIns (x : Ins) : Prop := okI0 x
def okFn (f : Func) : Prop := okF1 f ∧ ∀ b ∈ f.Blocks, ∀ x ∈ b.Code, okI0 x
def okPr (p : Prog) : Prop := okF0 p ∧ ∀ f ∈ p.Funcs, okFn f
def touchS (x : Ins) : List Int := useS x ++ (if (setS x).2 then [(setS x).1] else [])
def inF (f : Func) (x : Ins) : Bool := (touchS x).all (fun v => wI v 0 (nQ f.Kinds.length)) && (nextS x).all (fun v => wI v 1 (nQ f.Blocks.length))
def insS (p : Prog) (fi : Int) (x : Ins) : Bool :=
  wI fi 0 (nQ p.Funcs.length) && (!(ByteArray.toList (PS x.Op) == ByteArray.toList ({ data := #[] } : ByteArray)) && (bareS x && (numS p x && (match ixL p.Funcs fi with | some f => inF f x | none => false))))
theorem touch_len {x : Ins} (h : okI0 x) : (touchS x).length ≤ 17592186043907 := by
  have := use_len h
  unfold touchS; split <;> simp <;> omega
theorem all_not {l : List Int} {p : Int → Bool} : (!(l.any fun v => !p v)) = l.all p := by rw [List.not_any_eq_all_not]; simp
theorem touch_app {x : Ins} (h : okI0 x) (hs : (setS x).2 = true) : appL 8 (useS x) [(setS x).1] = some (touchS x) := by
  have := use_len h
  rw [appL_ok (by simp; omega)]; unfold touchS; rw [if_pos hs]
theorem ins_s {p : Prog} {fi : Int} {x : Ins} (hp : okPr p) (h : okI0 x) : shape_Ins p fi x = some (insS p fi x) := by
  unfold shape_Ins insS
  simp only [within_s, Option.bind_some, w64L hp.1]
  cases hw : wI fi 0 (nQ p.Funcs.length)
  · simp [shape_Ins.j1]
  obtain ⟨f, hf, hfm⟩ := ixL_in hw
  have hF := (hp.2 f hfm).1
  simp only [↓reduceIte, parts_c, Option.bind_some, bare_s, num_s hp.1, Bool.true_and, hf]
  cases (ByteArray.toList (PS x.Op) == ByteArray.toList ({ data := #[] } : ByteArray))
  rotate_left
  · simp [shape_Ins.j1]
  cases bareS x
  · simp [shape_Ins.j1]
  cases numS p x
  · simp [shape_Ins.j1]
  simp only [shape_Ins.j1, Bool.not_true, Bool.not_false, Bool.false_eq_true, ↓reduceIte, hf, Option.bind_some, use_s h, sets_s, Bool.true_and]
  have hj : ∀ l : List Int, l.length ≤ 17592186043907 → shape_Ins.j2 x f l = some (l.all (fun v => wI v 0 (nQ f.Kinds.length)) && (nextS x).all (fun v => wI v 1 (nQ f.Blocks.length))) := by
    intro l hl
    unfold shape_Ins.j2
    rw [containsInt (p := fun v => !wI v 0 (nQ f.Kinds.length)) (by omega) (fun v _ => by unfold shape_Ins_1; rw [within_s, w64L hF.1]; rfl), Option.bind_some, next_s, Option.bind_some, containsInt (p := fun v => !wI v 1 (nQ f.Blocks.length)) (by have := next_len x; omega) (fun v _ => by unfold shape_Ins_2; rw [within_s, w64L hF.2.2.1]; rfl), Option.bind_some, all_not, ← all_not (l := l)]
    cases l.any fun v => !wI v 0 (nQ f.Kinds.length) <;> simp
  cases hs : (setS x).2
  · simp only [Bool.false_eq_true, ↓reduceIte]
    rw [hj _ (by have := use_len h; omega)]
    unfold inF touchS; simp [hs]
  · simp only [↓reduceIte, touch_app h hs, Option.bind_some]
    rw [hj _ (touch_len h)]; rfl
theorem ins_r {p : Prog} {fi : Int} {x : Ins} (hp : okPr p) (h : okI0 x) : portolanref04_Ins p fi x = some (insS p fi x) := by
  unfold portolanref04_Ins insS
  simp only [within_r, Option.bind_some, w64L hp.1]
  cases hw : wI fi 0 (nQ p.Funcs.length)
  · simp [portolanref04_Ins.j1]
  obtain ⟨f, hf, hfm⟩ := ixL_in hw
  have hF := (hp.2 f hfm).1
  simp only [↓reduceIte, parts_r, Option.bind_some, bare_r, Bool.true_and, hf]
  cases (ByteArray.toList (PS x.Op) == ByteArray.toList ({ data := #[] } : ByteArray))
  rotate_left
  · simp [portolanref04_Ins.j1]
  cases bareS x
  · simp [portolanref04_Ins.j1]
  simp only [portolanref04_Ins.j1, Bool.not_true, Bool.not_false, Bool.false_eq_true, ↓reduceIte, hf, Option.bind_some, use_r h, sets_r, Bool.true_and]
  have hj : ∀ l : List Int, l.length ≤ 17592186043907 → portolanref04_Ins.j2 p x f l = some (numS p x && (l.all (fun v => wI v 0 (nQ f.Kinds.length)) && (nextS x).all (fun v => wI v 1 (nQ f.Blocks.length)))) := by
    intro l hl
    unfold portolanref04_Ins.j2
    rw [aft_if (forN_all (p := fun v => wI v 0 (nQ f.Kinds.length)) (r := false) (by omega) (fun i v hv => by
      simp only [portolanref04_Ins.b1, ixL_of hv, Option.bind_some, within_r, w64L hF.1, iteS]))]
    unfold portolanref04_Ins.k1
    rw [next_r, Option.bind_some, aft_if (forN_all (p := fun v => wI v 1 (nQ f.Blocks.length)) (r := false) (by have := next_len x; omega) (fun i v hv => by
      simp only [portolanref04_Ins.b2, ixL_of hv, Option.bind_some, within_r, w64L hF.2.2.1, iteS]))]
    rw [num_r hp.1]
    cases l.all fun v => wI v 0 (nQ f.Kinds.length) <;> cases (nextS x).all fun v => wI v 1 (nQ f.Blocks.length) <;> simp
  cases hs : (setS x).2
  · simp only [Bool.false_eq_true, ↓reduceIte]
    rw [hj _ (by have := use_len h; omega)]
    unfold inF touchS; simp [hs]
  · simp only [↓reduceIte, touch_app h hs, Option.bind_some]
    rw [hj _ (touch_len h)]; rfl

def codeS (p : Prog) (fi : Int) (f : Func) : Bool := f.Blocks.all fun b => b.Code.all (insS p fi)
def okAt (p : Prog) (i : Nat) : Bool := match p.Funcs[i]? with
  | some f => funcS f && codeS p (i : Int) f
  | none => false
def headS (p : Prog) : Bool := wI p.Funcs.length 1 8 && (match p.Funcs[0]? with | some f => f.Params == 0 && f.Result == 0 | none => false)
def checkS (p : Prog) : Bool := headS p && (List.range p.Funcs.length).all (okAt p)
theorem check_s {p : Prog} (hp : okPr p) : shape_Check p = some (if checkS p then 0 else 5) := by
  have h0 : okF0 p := hp.1
  unfold okF0 at h0
  have hj : shape_Check.j1 p false = some (if (List.range p.Funcs.length).all (okAt p) then 0 else 5) := by
    unfold shape_Check.j1
    simp only [Bool.false_eq_true, ↓reduceIte]
    rw [aft_if (forN_allI (p := okAt p) (r := (5 : Int)) (by omega) (fun j hj _ => by
      have hF := hp.2 _ (List.getElem_mem hj)
      simp only [shape_Check.b1, ixL_lt hj, Option.bind_some, func_s hF.1, okAt, List.getElem?_eq_getElem hj]
      cases funcS p.Funcs[j]
      · simp
      simp only [↓reduceIte, Bool.true_and]
      rw [aft_if (forN_all (p := fun b => b.Code.all (insS p j)) (r := (5 : Int)) (by have := hF.1.2.2.1; omega) (fun i b hb => by
        have hbm := List.mem_of_getElem? hb
        simp only [shape_Check.b2, ixL_of hb, Option.bind_some]
        rw [containsIns (p := fun x => !insS p j x) (by have := hF.1.2.2.2 b hbm; omega) (fun x hx => by unfold shape_Check_1; rw [ins_s hp (hF.2 b hbm x hx)]; rfl), Option.bind_some, ← Bool.not_not (b := b.Code.all _), List.not_all_eq_any_not]
        cases b.Code.any fun x => !insS p (j : Int) x <;> simp))]
      simp only [shape_Check.k2]
      by_cases hc : codeS p (j : Int) p.Funcs[j] = true
      · have hc' := hc; unfold codeS at hc'; rw [if_pos hc', if_pos hc]
      · have hc' := hc; unfold codeS at hc'; rw [if_neg hc', if_neg hc]))]
    simp only [shape_Check.k1, iteS]
  unfold shape_Check checkS headS
  rw [within_s, Option.bind_some]
  cases hw : wI p.Funcs.length 1 8
  · simp [shape_Check.j1]
  have hlen : 0 < p.Funcs.length := by unfold wI at hw; have := of_decide_eq_true hw; omega
  have e := ixL_lt (l := p.Funcs) (i := 0) hlen
  simp only [↓reduceIte, show ixL p.Funcs 0 = some p.Funcs[0] from e, Option.bind_some, List.getElem?_eq_getElem hlen, bne]
  cases p.Funcs[0].Params == 0
  · simp [shape_Check.j1]
  cases p.Funcs[0].Result == 0
  · simp [shape_Check.j1]
  simp [hj]
theorem check_r {p : Prog} (hp : okPr p) : portolanref04_Check p = some (if checkS p then 0 else 5) := by
  have h0 : okF0 p := hp.1
  unfold okF0 at h0
  have hj : portolanref04_Check.j1 p false = some (if (List.range p.Funcs.length).all (okAt p) then 0 else 5) := by
    unfold portolanref04_Check.j1
    simp only [Bool.false_eq_true, ↓reduceIte]
    rw [aft_if (forN_allI (p := okAt p) (r := (5 : Int)) (by omega) (fun j hj _ => by
      have hF := hp.2 _ (List.getElem_mem hj)
      simp only [portolanref04_Check.b1, ixL_lt hj, Option.bind_some, func_r hF.1, okAt, List.getElem?_eq_getElem hj]
      cases funcS p.Funcs[j]
      · simp
      simp only [↓reduceIte, Bool.true_and]
      rw [aft_if (forN_all (p := fun b => b.Code.all (insS p j)) (r := (5 : Int)) (by have := hF.1.2.2.1; omega) (fun i b hb => by
        have hbm := List.mem_of_getElem? hb
        have hbl := hF.1.2.2.2 b hbm
        obtain ⟨o, ho, hq⟩ := whileF_rule (body := portolanref04_Check.b3 p p.Funcs[j] j i) (fun s => ∃ k : Nat, s = (k : Int) ∧ k ≤ b.Code.length ∧ ∀ m (hm : m < b.Code.length), m < k → insS p j b.Code[m] = true) (fun s => (b.Code.length - s).toNat)
          (fun o => (∃ s, o = .brk s ∧ b.Code.all (insS p j) = true) ∨ (o = .ret 5 ∧ b.Code.all (insS p j) = false))
          (fun s hs => by
            obtain ⟨k, rfl, hk, hI⟩ := hs
            simp only [portolanref04_Check.b3, ixL_of hb, Option.bind_some]
            by_cases hkl : k < b.Code.length
            · have e1 : (k : Int) < b.Code.length := by omega
              simp only [e1, decide_true, ↓reduceIte, ixL_lt hkl, Option.bind_some, ins_r hp (hF.2 b hbm _ (List.getElem_mem hkl))]
              cases hi : insS p j b.Code[k]
              · exact ⟨_, rfl, .inr ⟨rfl, by rw [← Bool.not_eq_true, List.all_eq_true]; intro H; rw [H _ (List.getElem_mem hkl)] at hi; cases hi⟩⟩
              · refine ⟨_, rfl, ⟨k + 1, by rw [w64_id (by omega) (by omega)]; rfl, by omega, fun m hm hmk => ?_⟩, by rw [w64_id (by omega) (by omega)]; omega⟩
                by_cases e : m = k
                · subst e; exact hi
                · exact hI m hm (by omega)
            · have e1 : ¬ (k : Int) < b.Code.length := by omega
              simp only [e1, decide_false, Bool.false_eq_true, ↓reduceIte]
              refine ⟨_, rfl, .inl ⟨_, rfl, List.all_eq_true.2 fun x hx => ?_⟩⟩
              obtain ⟨m, hm, rfl⟩ := List.mem_iff_getElem.1 hx
              exact hI m hm (by omega)) 18446744073709551616 0 ⟨0, rfl, by omega, fun _ _ h => by omega⟩ (by omega)
        simp only [portolanref04_Check.b2]
        rw [ho]
        rcases hq with ⟨s, rfl, ha⟩ | ⟨rfl, ha⟩ <;> simp [ha, aft, portolanref04_Check.k3]))]
      simp only [portolanref04_Check.k2]
      by_cases hc : codeS p (j : Int) p.Funcs[j] = true
      · have hc' := hc; unfold codeS at hc'; rw [if_pos hc', if_pos hc]
      · have hc' := hc; unfold codeS at hc'; rw [if_neg hc', if_neg hc]))]
    simp only [portolanref04_Check.k1, iteS]
  unfold portolanref04_Check checkS headS
  rw [within_r, Option.bind_some]
  cases hw : wI p.Funcs.length 1 8
  · simp [portolanref04_Check.j1]
  have hlen : 0 < p.Funcs.length := by unfold wI at hw; have := of_decide_eq_true hw; omega
  have e := ixL_lt (l := p.Funcs) (i := 0) hlen
  simp only [↓reduceIte, show ixL p.Funcs 0 = some p.Funcs[0] from e, Option.bind_some, List.getElem?_eq_getElem hlen, bne]
  cases p.Funcs[0].Params == 0
  · simp [portolanref04_Check.j1]
  cases p.Funcs[0].Result == 0
  · simp [portolanref04_Check.j1]
  simp [hj]

theorem great_t {p : Prog} (hp : okPr p) : ∃ b, portolanref03_Great p = some b := by
  have h0 : okF0 p := hp.1
  unfold okF0 at h0
  have hin : ∀ (i : Nat) (f : Func), okFn f → ∀ (j : Nat) (b : Block), f.Blocks[j]? = some b → ∀ x : Int, 0 ≤ x → x ≤ 281474976710656000 → ∃ o, whileF (portolanref03_Great.b3 f j) 18446744073709551616 (x, 0) = some o ∧ ∃ s, o = .brk s ∧ 0 ≤ s.1 ∧ s.1 ≤ 562949953421312000 := by
    intro i f hf j b hb x hx0 hx1
    have hbm := List.mem_of_getElem? hb
    have hbl := hf.1.2.2.2 b hbm
    refine whileF_rule (body := portolanref03_Great.b3 f j) (fun s => 0 ≤ s.1 ∧ s.1 ≤ 562949953421312000 ∧ ∃ k : Nat, s.2 = (k : Int) ∧ k ≤ b.Code.length) (fun s => (b.Code.length - s.2).toNat) _ (fun s hs => ?_) 18446744073709551616 (x, 0) ⟨hx0, by simp only; omega, 0, rfl, by omega⟩ (by simp only; omega)
    obtain ⟨y, z⟩ := s
    obtain ⟨h1, h2, k, rfl, hk⟩ := hs
    simp only [portolanref03_Great.b3, ixL_of hb, Option.bind_some]
    by_cases hkl : k < b.Code.length
    · have e1 : (k : Int) < b.Code.length := by omega
      by_cases h3 : y ≤ 3000
      · have ha := hf.2 b hbm _ (List.getElem_mem hkl)
        unfold okI0 at ha
        simp only at h1 h2
        simp only [e1, decide_true, ↓reduceIte, h3, portolanref03_Great.j1, ixL_of hb, Option.bind_some, ixL_lt hkl]
        refine ⟨_, rfl, ⟨?_, ?_, k + 1, ?_, by omega⟩, ?_⟩ <;> simp only
        · rw [w64_id (by omega) (by omega)]; omega
        · rw [w64_id (by omega) (by omega)]; omega
        · rw [w64_id (by omega) (by omega)]; rfl
        · rw [w64_id (by omega) (by omega)]; omega
      · simp only [e1, decide_true, ↓reduceIte, h3, portolanref03_Great.j1, decide_false, Bool.false_eq_true]
        exact ⟨_, rfl, _, rfl, h1, h2⟩
    · have e1 : ¬ (k : Int) < b.Code.length := by omega
      simp only [e1, decide_false, Bool.false_eq_true, ↓reduceIte, portolanref03_Great.j1]
      exact ⟨_, rfl, _, rfl, h1, h2⟩
  obtain ⟨o, ho, s, hs⟩ := forN_rule (body := portolanref03_Great.b1 p) (s := (p.Funcs.length : Int)) (n := p.Funcs.length) (fun _ x => 0 ≤ x ∧ x ≤ 562949953421312000) (fun o => ∃ s, o = .next s ∨ o = .brk s) (by omega) ⟨by omega, by omega⟩ (fun j s hj hI => by
    have hF := hp.2 _ (List.getElem_mem hj)
    have hk := hF.1.1
    have hb := hF.1.2.1
    have hl := hF.1.2.2.1
    simp only [portolanref03_Great.b1]
    by_cases h3 : s ≤ 3000
    · simp only [h3, decide_true, ↓reduceIte, ixL_lt hj, Option.bind_some]
      rw [w64_id (n := s + (p.Funcs[j].Kinds.length : Int)) (by omega) (by omega), w64_id (n := s + (p.Funcs[j].Kinds.length : Int) + (p.Funcs[j].Base.length : Int)) (by omega) (by omega), w64_id (n := s + (p.Funcs[j].Kinds.length : Int) + (p.Funcs[j].Base.length : Int) + (p.Funcs[j].Blocks.length : Int)) (by omega) (by omega)]
      obtain ⟨o, ho, s', hs, h1, h2⟩ := forN_rule (body := portolanref03_Great.b2 p.Funcs[j]) (s := s + (p.Funcs[j].Kinds.length : Int) + (p.Funcs[j].Base.length : Int) + (p.Funcs[j].Blocks.length : Int)) (n := p.Funcs[j].Blocks.length) (fun _ x => 0 ≤ x ∧ x ≤ 562949953421312000) (fun o => ∃ s, (o = .next s ∨ o = .brk s) ∧ 0 ≤ s ∧ s ≤ 562949953421312000) (by omega) ⟨by omega, by omega⟩ (fun i y hi hI2 => by
        have hcl := hF.1.2.2.2 _ (List.getElem_mem hi)
        simp only [portolanref03_Great.b2]
        by_cases h4 : y ≤ 3000
        · simp only [h4, decide_true, ↓reduceIte, ixL_lt hi, Option.bind_some]
          rw [w64_id (by omega) (by omega)]
          obtain ⟨o, ho, s, rfl, h5, h6⟩ := hin j p.Funcs[j] hF i _ (List.getElem?_eq_getElem hi) (y + (p.Funcs[j].Blocks[i].Code.length : Int)) (by omega) (by omega)
          rw [aft_brk ho]
          exact ⟨_, rfl, h5, h6⟩
        · simp only [h4, decide_false, Bool.false_eq_true, ↓reduceIte]
          exact ⟨_, rfl, _, .inr rfl, hI2.1, hI2.2⟩) (fun s h => ⟨s, .inl rfl, h.1, h.2⟩)
      rcases hs with rfl | rfl
      · rw [aft_next ho]; exact ⟨_, rfl, h1, h2⟩
      · rw [aft_brk ho]; exact ⟨_, rfl, h1, h2⟩
    · simp only [h3, decide_false, Bool.false_eq_true, ↓reduceIte]
      exact ⟨_, rfl, _, .inr rfl⟩) (fun s _ => ⟨s, .inl rfl⟩)
  unfold portolanref03_Great
  rcases hs with rfl | rfl
  · rw [aft_next ho]; exact ⟨_, rfl⟩
  · rw [aft_brk ho]; exact ⟨_, rfl⟩
end Go.Pf
end
section
/- The plain laws of shapes. -/
namespace Go.Pf
open Go.Pp

theorem forN_ok {R : Type} {body : Nat → Unit → Option (LR Unit R)} {n : Nat} (hn : n ≤ 4611686018427387904) (h : ∀ j, j < n → body j () = some (.next ())) : forN (n : Int) body () = some (.next ()) := by
  obtain ⟨o, ho, rfl⟩ := forN_rule (body := body) (s := ()) (n := n) (fun _ _ => True) (fun o => o = .next ()) hn trivial (fun j s hj _ => ⟨_, h j hj, trivial⟩) (fun _ _ => rfl)
  exact ho
theorem ShapeChecks_plain {p : Prog} (hp : okPr p) : portolanlaw04_ShapeChecks p = some true := by
  have h0 : okF0 p := hp.1
  unfold okF0 at h0
  unfold portolanlaw04_ShapeChecks portolanlaw04_alive
  obtain ⟨b, hb⟩ := great_t hp
  simp only [Option.bind_some, ↓reduceIte, hb]
  cases b
  · simp only [Bool.false_eq_true, ↓reduceIte]
    rw [aft_next (forN_ok (by omega) (fun j hj => by
      simp only [portolanlaw04_ShapeChecks.b1, ixL_lt hj, Option.bind_some, func_s (hp.2 _ (List.getElem_mem hj)).1, func_r (hp.2 _ (List.getElem_mem hj)).1, beq_self_eq_true, ↓reduceIte]))]
    unfold portolanlaw04_ShapeChecks.k1
    rw [check_s hp, Option.bind_some, check_r hp, Option.bind_some]
    simp
  · rfl
theorem ints_same {l : List Int} (h : l.length ≤ 4611686018427387904) : portolanref01_Ints l l = some true := by
  unfold portolanref01_Ints
  simp only [bne_self_eq_false, Bool.false_eq_true, ↓reduceIte]
  rw [aft_next (forN_ok (by omega) (fun j hj => by simp [portolanref01_Ints.b1, ixL_lt hj]))]
  rfl
theorem ShapeIns_plain {p : Prog} {fi : Int} {x : Ins} (hp : okPr p) (hx : okI0 x) : portolanlaw04_ShapeIns p fi x = some true := by
  unfold portolanlaw04_ShapeIns portolanlaw04_alive
  obtain ⟨b, hb⟩ := great_t hp
  have hj : ∀ c, portolanlaw04_ShapeIns.j1 p fi x c = some true := by
    intro c
    unfold portolanlaw04_ShapeIns.j1
    cases c
    · have := use_len hx
      have := next_len x
      simp only [Bool.false_eq_true, ↓reduceIte, sets_s, sets_r, ins_s hp hx, ins_r hp hx, last_s, last_r, use_s hx, use_r hx, next_s, next_r, Option.bind_some, beq_self_eq_true, ints_same (l := useS x) (by omega), ints_same (l := nextS x) (by omega)]
    · rfl
  simp only [Option.bind_some, ↓reduceIte, hb, hj]
  cases b <;> rfl

theorem check_parts {p : Prog} (h : checkS p = true) : (∀ (i : Nat) (hi : i < p.Funcs.length), funcS p.Funcs[i] = true ∧ codeS p (i : Int) p.Funcs[i] = true) ∧ headS p = true := by
  unfold checkS at h
  rw [Bool.and_eq_true, List.all_eq_true] at h
  refine ⟨fun i hi => ?_, h.1⟩
  have := h.2 i (by simpa using hi)
  unfold okAt at this
  rw [List.getElem?_eq_getElem hi] at this
  simpa using this
theorem func_blocks {f : Func} (h : funcS f = true) : 1 ≤ f.Blocks.length ∧ f.Params ≤ f.Kinds.length ∧ ∀ b ∈ f.Blocks, 1 ≤ b.Code.length ∧ ∀ (i : Nat) (hi : i < b.Code.length), lastS b.Code[i].Op = ((i : Int) == nQ b.Code.length) := by
  unfold funcS at h
  simp only [Bool.and_eq_true] at h
  obtain ⟨_, hp, _, _, hb, hall⟩ := h
  unfold wI at hp hb
  have hp := of_decide_eq_true hp
  have hb := of_decide_eq_true hb
  refine ⟨by omega, by split at hp <;> omega, fun b hbm => ?_⟩
  have := List.all_eq_true.1 hall b hbm
  unfold blockS at this
  rw [Bool.and_eq_true, List.all_eq_true] at this
  obtain ⟨h1, h2⟩ := this
  unfold wI at h1
  have h1 := of_decide_eq_true h1
  refine ⟨by omega, fun i hi => ?_⟩
  have := h2 i (by simpa using hi)
  unfold lastAt at this
  rw [List.getElem?_eq_getElem hi] at this
  exact eq_of_beq this
theorem code_ins {p : Prog} {i : Nat} {hi : i < p.Funcs.length} (h : codeS p (i : Int) p.Funcs[i] = true) {b : Block} (hb : b ∈ p.Funcs[i].Blocks) {x : Ins} (hx : x ∈ b.Code) : inF p.Funcs[i] x = true := by
  unfold codeS at h
  have := List.all_eq_true.1 (List.all_eq_true.1 h b hb) x hx
  unfold insS at this
  rw [ixL_lt hi] at this
  simp only [Bool.and_eq_true] at this
  exact this.2.2.2.2
theorem inF_next {f : Func} {x : Ins} (h : inF f x = true) : ∀ v ∈ nextS x, 1 ≤ v ∧ v < f.Blocks.length := by
  unfold inF at h
  rw [Bool.and_eq_true] at h
  intro v hv
  have := List.all_eq_true.1 h.2 v hv
  unfold wI nQ at this
  have := of_decide_eq_true this
  omega
theorem inF_use {f : Func} {x : Ins} (h : inF f x = true) : ∀ v ∈ useS x, 0 ≤ v ∧ v < f.Kinds.length := by
  unfold inF at h
  rw [Bool.and_eq_true] at h
  intro v hv
  have := List.all_eq_true.1 h.1 v (by unfold touchS; exact List.mem_append.2 (.inl hv))
  unfold wI nQ at this
  have := of_decide_eq_true this
  omega
theorem next_last (x : Ins) : (0 < (nextS x).length → lastS x.Op = true) ∧ ((nextS x).length = 0 → lastS x.Op = true → x.Op = 23) := by
  unfold nextS lastS wI
  by_cases h1 : x.Op = 21
  · simp [h1]
  · by_cases h2 : x.Op = 22
    · simp only [h2]
      constructor
      · intro _; decide
      · intro h; exfalso; revert h; simp; (repeat' split) <;> simp
    · simp [h1, h2]; omega
theorem ShapeLasts_plain {p : Prog} (hp : okPr p) : portolanlaw04_ShapeLasts p = some true := by
  have h0 : okF0 p := hp.1
  unfold okF0 at h0
  unfold portolanlaw04_ShapeLasts portolanlaw04_alive
  obtain ⟨b, hb⟩ := great_t hp
  simp only [Option.bind_some, ↓reduceIte, hb, check_s hp]
  cases b
  rotate_left
  · rfl
  simp only [Bool.false_eq_true, ↓reduceIte]
  cases hc : checkS p
  · rfl
  simp only [↓reduceIte, show ((0 : Int) != 0) = false by decide]
  unfold portolanlaw04_ShapeLasts.j1
  simp only [Bool.false_eq_true, ↓reduceIte]
  obtain ⟨hcp, _⟩ := check_parts hc
  rw [aft_next (forN_ok (by omega) (fun i hi => by
    obtain ⟨hfu, hco⟩ := hcp i hi
    have hF := hp.2 _ (List.getElem_mem hi)
    have hbl := hF.1.2.2.1
    simp only [portolanlaw04_ShapeLasts.b1, ixL_lt hi, Option.bind_some]
    rw [aft_next (forN_ok (by omega) (fun j hj => by
      have hbm := List.getElem_mem hj
      obtain ⟨hlen, hlast⟩ := (func_blocks hfu).2.2 _ hbm
      have hcl := hF.1.2.2.2 _ hbm
      simp only [portolanlaw04_ShapeLasts.b2, ixL_lt hj, Option.bind_some]
      rw [aft_next (forN_ok (by omega) (fun k hk => by
        have hxm := List.getElem_mem hk
        have hin := code_ins hco hbm hxm
        have hx0 := hF.2 _ hbm _ hxm
        have hl := hlast k hk
        have hj2 : portolanlaw04_ShapeLasts.j2 p.Funcs[i] p.Funcs[i].Blocks[j] (nextS p.Funcs[i].Blocks[j].Code[k]) k = some (.next ()) := by
          unfold portolanlaw04_ShapeLasts.j2
          have := next_len p.Funcs[i].Blocks[j].Code[k]
          rw [aft_next (forN_ok (by omega) (fun m hm => by
            have hv := inF_next hin _ (List.getElem_mem hm)
            have e1 : ¬ (nextS p.Funcs[i].Blocks[j].Code[k])[m] < 1 := by omega
            have e2 : ¬ (p.Funcs[i].Blocks.length : Int) ≤ (nextS p.Funcs[i].Blocks[j].Code[k])[m] := by omega
            simp only [portolanlaw04_ShapeLasts.b4, ixL_lt hm, Option.bind_some, e1, e2, decide_false, Bool.false_eq_true, ↓reduceIte]))]
          unfold portolanlaw04_ShapeLasts.k4
          have := use_len hx0
          simp only [ixL_lt hk, Option.bind_some, use_s hx0]
          rw [aft_next (forN_ok (by omega) (fun m hm => by
            have hv := inF_use hin _ (List.getElem_mem hm)
            have e1 : ¬ (useS p.Funcs[i].Blocks[j].Code[k])[m] < 0 := by omega
            have e2 : ¬ (p.Funcs[i].Kinds.length : Int) ≤ (useS p.Funcs[i].Blocks[j].Code[k])[m] := by omega
            simp only [portolanlaw04_ShapeLasts.b5, ixL_lt hm, Option.bind_some, e1, e2, decide_false, Bool.false_eq_true, ↓reduceIte]))]
          rfl
        obtain ⟨hn1, hn2⟩ := next_last p.Funcs[i].Blocks[j].Code[k]
        simp only [portolanlaw04_ShapeLasts.b3, ixL_lt hk, Option.bind_some, next_s, last_s, w64L hcl, hl, beq_self_eq_true, ↓reduceIte, hj2]
        rw [hl] at hn1 hn2
        by_cases hnz : (nextS p.Funcs[i].Blocks[j].Code[k]).length = 0
        · have e1 : ¬ (0 < ((nextS p.Funcs[i].Blocks[j].Code[k]).length : Int)) := by omega
          have e2 : (((nextS p.Funcs[i].Blocks[j].Code[k]).length : Int) == 0) = true := by simp; exact List.length_eq_zero_iff.1 hnz
          simp only [e1, decide_false, Bool.false_eq_true, ↓reduceIte, e2]
          cases hkq : ((k : Int) == nQ p.Funcs[i].Blocks[j].Code.length)
          · simp
          · have h23 := hn2 hnz hkq
            simp [h23]
        · have e1 : (0 < ((nextS p.Funcs[i].Blocks[j].Code[k]).length : Int)) := by omega
          have e2 : (((nextS p.Funcs[i].Blocks[j].Code[k]).length : Int) == 0) = false := by
            rw [← Bool.not_eq_true]; intro h; have := eq_of_beq h; omega
          have hkq := eq_of_beq (hn1 (by omega))
          have e3 : ¬ ((k : Int) < nQ p.Funcs[i].Blocks[j].Code.length) := by omega
          simp only [e1, decide_true, ↓reduceIte, e2, Bool.false_eq_true, e3, decide_false]))]
      rfl))]
    rfl))]
  rfl
theorem ShapeFirst_plain {p : Prog} (hp : okPr p) : portolanlaw04_ShapeFirst p = some true := by
  have h0 : okF0 p := hp.1
  unfold okF0 at h0
  unfold portolanlaw04_ShapeFirst portolanlaw04_alive
  obtain ⟨b, hb⟩ := great_t hp
  simp only [Option.bind_some, ↓reduceIte, hb, check_s hp]
  cases b
  rotate_left
  · rfl
  simp only [Bool.false_eq_true, ↓reduceIte]
  cases hc : checkS p
  · rfl
  simp only [↓reduceIte, show ((0 : Int) != 0) = false by decide]
  unfold portolanlaw04_ShapeFirst.j1
  simp only [Bool.false_eq_true, ↓reduceIte]
  obtain ⟨hcp, hhd⟩ := check_parts hc
  rw [aft_next (forN_ok (by omega) (fun i hi => by
    obtain ⟨hfu, hco⟩ := hcp i hi
    have hF := hp.2 _ (List.getElem_mem hi)
    have hbl := hF.1.2.2.1
    obtain ⟨hb1, hpk, hbs⟩ := func_blocks hfu
    have e1 : ((p.Funcs[i].Blocks.length : Int) == 0) = false := by rw [← Bool.not_eq_true]; intro h; have := eq_of_beq h; omega
    have e2 : ¬ ((p.Funcs[i].Kinds.length : Int) < p.Funcs[i].Params) := by omega
    simp only [portolanlaw04_ShapeFirst.b1, ixL_lt hi, Option.bind_some, e1, Bool.false_eq_true, ↓reduceIte, e2, decide_false, portolanlaw04_ShapeFirst.j2]
    rw [aft_next (forN_ok (by omega) (fun j hj => by
      have hbm := List.getElem_mem hj
      obtain ⟨hlen, hlast⟩ := hbs _ hbm
      have hcl := hF.1.2.2.2 _ hbm
      have hk : p.Funcs[i].Blocks[j].Code.length - 1 < p.Funcs[i].Blocks[j].Code.length := by omega
      have hix : ixL p.Funcs[i].Blocks[j].Code (nQ p.Funcs[i].Blocks[j].Code.length) = some p.Funcs[i].Blocks[j].Code[p.Funcs[i].Blocks[j].Code.length - 1] := by
        rw [← ixL_lt hk]; congr 1; unfold nQ; omega
      have hl := hlast _ hk
      have hkq : (((p.Funcs[i].Blocks[j].Code.length - 1 : Nat) : Int) == nQ p.Funcs[i].Blocks[j].Code.length) = true := by unfold nQ; simp; omega
      have hin := code_ins hco hbm (List.getElem_mem hk)
      have e3 : ((p.Funcs[i].Blocks[j].Code.length : Int) == 0) = false := by rw [← Bool.not_eq_true]; intro h; have := eq_of_beq h; omega
      have := next_len p.Funcs[i].Blocks[j].Code[p.Funcs[i].Blocks[j].Code.length - 1]
      simp only [portolanlaw04_ShapeFirst.b2, ixL_lt hj, Option.bind_some, e3, Bool.false_eq_true, ↓reduceIte, w64L hcl, hix, last_s, hl, hkq, Bool.not_true, portolanlaw04_ShapeFirst.j3, next_s]
      rw [aft_next (forN_ok (by omega) (fun m hm => by
        have hv := inF_next hin _ (List.getElem_mem hm)
        have e4 : ((nextS p.Funcs[i].Blocks[j].Code[p.Funcs[i].Blocks[j].Code.length - 1])[m] == 0) = false := by rw [← Bool.not_eq_true]; intro h; have := eq_of_beq h; omega
        simp only [portolanlaw04_ShapeFirst.b3, ixL_lt hm, Option.bind_some, e4, Bool.false_eq_true, ↓reduceIte]))]
      rfl))]
    rfl))]
  unfold portolanlaw04_ShapeFirst.k1
  unfold headS at hhd
  rw [Bool.and_eq_true] at hhd
  cases h1 : p.Funcs[0]? with
  | none => rw [h1] at hhd; simp at hhd
  | some f =>
    rw [h1] at hhd
    simp only [Bool.and_eq_true] at hhd
    rw [show ixL p.Funcs 0 = some f from ixL_of (i := 0) h1, Option.bind_some, hhd.2.1]
end Go.Pf
end
section
/- Edges: which there are, which are critical. -/
namespace Go.Pf
open Go.Pp

/-- where a block's last instruction goes -/
def nxB (b : Block) : List Int := match b.Code.getLast? with
  | some x => nextS x
  | none => []
def nxF (f : Func) (i : Int) : List Int := match ixL f.Blocks i with
  | some b => nxB b
  | none => []
theorem nxB_len (b : Block) : (nxB b).length ≤ 2 := by unfold nxB; split <;> simp [next_len]
theorem nxF_len (f : Func) (i : Int) : (nxF f i).length ≤ 2 := by unfold nxF; split <;> simp [nxB_len]
theorem last_ix {l : List Ins} (h : 0 < l.length) (hl : l.length ≤ 281474976710656) : ixL l (w64 ((l.length : Int) - 1)) = l.getLast? := by
  rw [w64L hl, List.getLast?_eq_getElem?]
  unfold ixL nQ
  rw [if_pos (by omega)]
  congr 1; omega
theorem next_f {f : Func} (h : okF1 f) (i : Int) : flow_Next f i = some (nxF f i) := by
  unfold flow_Next nxF
  by_cases h0 : i < 0
  · have : ixL f.Blocks i = none := by unfold ixL; rw [if_neg (by omega)]
    simp [h0, flow_Next.j1, this]
  · by_cases h1 : (f.Blocks.length : Int) ≤ i
    · have : ixL f.Blocks i = none := by unfold ixL; rw [if_pos (by omega)]; exact List.getElem?_eq_none (by omega)
      simp [h0, h1, flow_Next.j1, this]
    · have hx := ixL_int (l := f.Blocks) (i := i) (by omega) (by omega)
      have hcl := h.2.2.2 _ (List.getElem_mem (show i.toNat < f.Blocks.length by omega))
      generalize f.Blocks[i.toNat]'(by omega) = b at hx hcl
      simp only [h0, h1, decide_false, Bool.false_eq_true, ↓reduceIte, flow_Next.j1, hx, Option.bind_some]
      by_cases hz : b.Code.length = 0
      · have : b.Code = [] := List.length_eq_zero_iff.1 hz
        simp [hz, nxB, this]
      · have e : ((b.Code.length : Int) == 0) = false := by rw [← Bool.not_eq_true]; intro h; have := eq_of_beq h; omega
        rw [last_ix (by omega) hcl]
        simp only [e, Bool.false_eq_true, ↓reduceIte, nxB]
        cases hg : b.Code.getLast? with
        | none => rw [List.getLast?_eq_none_iff] at hg; simp [hg] at hz
        | some x => simp [next_s]
def edgB (f : Func) (i : Nat) : List Edge := (nxF f (i : Int)).map fun t => Edge.mk (i : Int) t
def edgF (f : Func) : List Edge := (List.range f.Blocks.length).flatMap (edgB f)
theorem edgB_len (f : Func) (i : Nat) : (edgB f i).length ≤ 2 := by unfold edgB; simp [nxF_len]
theorem edges_f {f : Func} (h : okF1 f) (hn : f.Blocks.length ≤ 1000) : flow_Edges f = some (edgF f) ∧ (edgF f).length ≤ f.Blocks.length * 2 := by
  have := forN_app (l := List.range f.Blocks.length) (body := flow_Edges.b1 f) (R := List Edge) (g := fun i => edgB f i) (s := []) 2 5000 (by simp; omega) (by simp; omega) (fun i _ => edgB_len f i) (fun i x s hx hs => by
    obtain ⟨hi, rfl⟩ := List.getElem?_eq_some_iff.1 hx
    simp only [List.getElem_range]
    simp only [flow_Edges.b1, next_f h, Option.bind_some]
    have h2 := forN_app (l := nxF f (i : Int)) (body := flow_Edges.b2 (nxF f (i : Int)) i) (R := List Edge) (g := fun t => [Edge.mk (i : Int) t]) (s := s) 1 6000 (by have := nxF_len f i; omega) (by have := nxF_len f i; omega) (fun _ _ => by simp) (fun j t s' ht hs' => by
      simp only [flow_Edges.b2, ixL_of ht, Option.bind_some]
      rw [appL_ok (by simp; omega)]; rfl)
    rw [aft_next h2.1]
    have e : (nxF f (i : Int)).flatMap (fun t => [Edge.mk (i : Int) t]) = edgB f i := by unfold edgB; induction nxF f (i : Int) with
      | nil => rfl
      | cons a l ih => simp [ih]
    rw [e]; rfl)
  simp only [List.length_range, List.nil_append, List.length_nil, Nat.zero_add] at this
  refine ⟨?_, this.2⟩
  unfold flow_Edges
  rw [aft_next this.1]; rfl
theorem edg_mem {f : Func} {e : Edge} : e ∈ edgF f ↔ ∃ i : Nat, i < f.Blocks.length ∧ e.From = (i : Int) ∧ e.To ∈ nxF f (i : Int) := by
  unfold edgF edgB
  simp only [List.mem_flatMap, List.mem_range, List.mem_map]
  constructor
  · rintro ⟨i, hi, t, ht, rfl⟩; exact ⟨i, hi, rfl, ht⟩
  · rintro ⟨i, hi, h1, h2⟩; exact ⟨i, hi, e.To, h2, by cases e; simp_all⟩
/-- how many edges lead to a block -/
def cntF (f : Func) (t : Int) : Nat := (edgF f).countP fun e => e.To == t
def critB (f : Func) (e : Edge) : Bool := decide (2 ≤ cntF f e.To) && decide (2 ≤ (nxF f e.From).length)
def critF (f : Func) : List Edge := (edgF f).filter (critB f)
end Go.Pf
end
section
/- What is deleted; the critical edges. -/
namespace Go.Pf
open Go.Pp

theorem delEdge {l : List Edge} {g : Edge → Option Bool} {p : Edge → Bool} (hn : l.length ≤ 1000000) (h : ∀ x ∈ l, g x = some (p x)) : slices_DeleteFunc_Edge l g = some (l.filter fun e => !p e) := by
  obtain ⟨o, ho, hq⟩ := findL (l := l) (body := slices_IndexFunc_Edge.b1 l g) (p := p) (by omega) (fun j hj => by
    simp only [slices_IndexFunc_Edge.b1, ixL_lt hj, Option.bind_some, h _ (List.getElem_mem hj)]; split <;> rfl)
  unfold slices_DeleteFunc_Edge slices_IndexFunc_Edge
  rcases hq with ⟨rfl, hq⟩ | ⟨i, hi, rfl, h1, h2⟩
  · rw [aft_next ho]
    simp only [slices_IndexFunc_Edge.k1, Option.bind_some, beq_self_eq_true, ↓reduceIte]
    congr 1
    symm
    rw [List.filter_eq_self]
    intro x hx
    obtain ⟨m, hm, rfl⟩ := List.mem_iff_getElem.1 hx
    simp [hq m hm]
  · rw [aft_ret ho]
    have e1 : ((i : Int) == -1) = false := by rw [← Bool.not_eq_true]; intro h; have := eq_of_beq h; omega
    simp only [Option.bind_some, e1, Bool.false_eq_true, ↓reduceIte]
    rw [w64_id (by omega) (by omega)]
    have hpre : ∀ j, j ≤ i → (l.take j).filter (fun e => !p e) = l.take j := by
      intro j hj
      rw [List.filter_eq_self]
      intro x hx
      obtain ⟨m, hm, rfl⟩ := List.mem_iff_getElem.1 hx
      rw [List.getElem_take]
      rw [List.length_take] at hm
      simp [h2 m (by omega) (by omega)]
    obtain ⟨o, ho, hq⟩ := whileF_rule (body := slices_DeleteFunc_Edge.b1 g) (fun s => ∃ (k j : Nat), s.2.1 = (k : Int) ∧ s.2.2 = (j : Int) ∧ k < j ∧ j ≤ l.length ∧ s.1.length = l.length ∧ s.1.take k = (l.take j).filter (fun e => !p e) ∧ ∀ m, j ≤ m → s.1[m]? = l[m]?)
      (fun s => (l.length - s.2.2).toNat)
      (fun o => ∃ (x : List Edge) (k : Nat) (z : Int), o = .brk (x, (k : Int), z) ∧ k ≤ x.length ∧ x.length = l.length ∧ x.take k = l.filter (fun e => !p e))
      (fun s hs => by
        obtain ⟨x, y, z⟩ := s
        obtain ⟨k, j, hk, hj, hkj, hjl, hl, ht, hm⟩ := hs
        simp only at hk hj hl ht hm
        subst hk; subst hj
        simp only [slices_DeleteFunc_Edge.b1]
        by_cases hlt : j < l.length
        · have e2 : (j : Int) < (x.length : Int) := by omega
          have hxj : x[j]? = some l[j] := by rw [hm j (Nat.le_refl _), List.getElem?_eq_getElem hlt]
          have htk : l.take (j + 1) = l.take j ++ [l[j]] := by rw [List.take_add_one, List.getElem?_eq_getElem hlt]; rfl
          simp only [e2, decide_true, ↓reduceIte, ixL_of hxj, Option.bind_some, h _ (List.getElem_mem hlt)]
          rw [w64_id (n := (j : Int) + 1) (by omega) (by omega), w64_id (n := (k : Int) + 1) (by omega) (by omega)]
          cases hp : p l[j]
          · have hkl : k < x.length := by omega
            simp only [Bool.false_eq_true, ↓reduceIte, ixL_lt hkl, Option.bind_some]
            have hu : updL x (k : Int) l[j] = some (x.set k l[j]) := by unfold updL; rw [if_pos (by omega), Int.toNat_natCast]
            simp only [hu, Option.bind_some]
            refine ⟨_, rfl, ⟨k + 1, j + 1, rfl, rfl, by omega, by omega, by simpa using hl, ?_, fun m hjm => ?_⟩, by simp only; omega⟩
            · rw [htk, List.filter_append, ← ht]
              simp only [hp, Bool.not_false, List.filter_cons_of_pos, List.filter_nil]
              rw [List.take_add_one, List.getElem?_set_self hkl, List.take_set_of_le (Nat.le_refl _)]; rfl
            · rw [List.getElem?_set_ne (by omega)]; exact hm m (by omega)
          · simp only [↓reduceIte]
            refine ⟨_, rfl, ⟨k, j + 1, rfl, rfl, by omega, by omega, hl, ?_, fun m hjm => hm m (by omega)⟩, by simp only; omega⟩
            rw [htk, List.filter_append, ← ht]
            simp [hp]
        · have e2 : ¬ (j : Int) < (x.length : Int) := by omega
          simp only [e2, decide_false, Bool.false_eq_true, ↓reduceIte]
          refine ⟨_, rfl, x, k, _, rfl, by omega, hl, ?_⟩
          rw [ht, List.take_of_length_le (by omega)]) 18446744073709551616 (l, (i : Int), (i : Int) + 1) ⟨i, i + 1, rfl, rfl, by omega, by omega, rfl, by
        rw [List.take_add_one, List.getElem?_eq_getElem hi, List.filter_append, hpre i (Nat.le_refl _)]; simp [h1], fun _ _ => rfl⟩ (by simp only; omega)
    obtain ⟨x, k, z, rfl, hk, hl, ht⟩ := hq
    rw [aft_brk ho]
    unfold slices_DeleteFunc_Edge.k1
    rw [tailL_ok (by simp only; omega) (by simp only; omega)]
    simp only [Option.bind_some, clrL, Int.toNat_natCast]
    rw [headL_ok (by omega) (by simp; omega)]
    simp only [Option.bind_some, Int.toNat_natCast]
    rw [List.take_append_of_le_length (by simp; omega), List.take_take, Nat.min_self, ht]

def okT (f : Func) : Prop := f.Blocks.length ≤ 1000 ∧ ∀ e ∈ edgF f, 0 ≤ e.To ∧ e.To < f.Blocks.length
theorem crit_f {f : Func} (h : okF1 f) (hT : okT f) : edge_Critical f = some (critF f) := by
  obtain ⟨hn, hto⟩ := hT
  obtain ⟨he, hel⟩ := edges_f h hn
  unfold edge_Critical
  have hmk : mkL 8 (0 : Int) (f.Blocks.length : Int) (f.Blocks.length : Int) = some (List.replicate f.Blocks.length 0) := by unfold mkL; rw [if_pos (by omega), Int.toNat_natCast]
  rw [hmk, Option.bind_some, he, Option.bind_some]
  obtain ⟨o, ho, hq⟩ := forN_rule (body := edge_Critical.b1 (edgF f)) (s := List.replicate f.Blocks.length (0 : Int)) (n := (edgF f).length) (fun j s => s.length = f.Blocks.length ∧ ∀ t : Nat, t < f.Blocks.length → s[t]? = some ((((edgF f).take j).countP fun e => e.To == (t : Int)) : Int))
    (fun o => ∃ s, o = .next s ∧ s.length = f.Blocks.length ∧ ∀ t : Nat, t < f.Blocks.length → s[t]? = some ((cntF f (t : Int) : Nat) : Int)) (by omega)
    ⟨by simp, fun t ht => by simp [ht]⟩ (fun j s hj hI => by
      obtain ⟨hl, hc⟩ := hI
      have hm := List.getElem_mem hj
      obtain ⟨h0, h1⟩ := hto _ hm
      have hcc : ((edgF f).take j).countP (fun e => e.To == (((edgF f)[j]).To)) ≤ 2000 := Nat.le_trans List.countP_le_length (by rw [List.length_take]; omega)
      obtain ⟨t0, ht0⟩ : ∃ t0 : Nat, (edgF f)[j].To = (t0 : Int) := ⟨(edgF f)[j].To.toNat, by omega⟩
      have hst : s[t0]? = some _ := hc t0 (by omega)
      simp only [edge_Critical.b1, ixL_lt hj, Option.bind_some]
      rw [ht0] at hcc ⊢
      rw [ixL_of hst, Option.bind_some, w64_id (by omega) (by omega)]
      have hu : updL s (t0 : Int) ((((edgF f).take j).countP (fun e => e.To == (t0 : Int)) : Nat) + 1 : Int) = some (s.set t0 ((((edgF f).take j).countP (fun e => e.To == (t0 : Int)) : Nat) + 1 : Int)) := by unfold updL; rw [if_pos (by omega), Int.toNat_natCast]
      rw [hu, Option.bind_some]
      refine ⟨_, rfl, by simpa using hl, fun t ht => ?_⟩
      rw [List.take_add_one, List.getElem?_eq_getElem hj, List.countP_append]
      by_cases htt : t = t0
      · subst htt
        rw [List.getElem?_set_self (by omega)]
        simp [ht0]
      · rw [List.getElem?_set_ne (Ne.symm htt), hc t ht]
        have : ¬ (t0 : Int) = (t : Int) := by omega
        simp [ht0, this])
    (fun s hI => ⟨s, rfl, hI.1, fun t ht => by rw [hI.2 t ht, List.take_length]; rfl⟩)
  obtain ⟨s, rfl, hl, hc⟩ := hq
  rw [aft_next ho]
  unfold edge_Critical.k1 critF
  rw [delEdge (p := fun e => !critB f e) (by omega) (fun e hem => by
    obtain ⟨h0, h1⟩ := hto _ hem
    obtain ⟨t0, ht0⟩ : ∃ t0 : Nat, e.To = (t0 : Int) := ⟨e.To.toNat, by omega⟩
    unfold edge_Critical_1 critB
    rw [ht0, ixL_of (hc t0 (by omega)), Option.bind_some]
    by_cases h2 : 2 ≤ cntF f (t0 : Int)
    · have e1 : ¬ ((cntF f (t0 : Int) : Int) < 2) := by omega
      simp only [e1, decide_false, Bool.false_eq_true, ↓reduceIte, next_f h, Option.bind_some, h2, decide_true, Bool.true_and]
      congr 1
      rw [Bool.eq_iff_iff]; simp; omega
    · have e1 : ((cntF f (t0 : Int) : Int) < 2) := by omega
      simp [e1, h2])]
  simp
end Go.Pf
end
section
/- Edges that are split: a function's edges, each once; a block's last instruction led elsewhere. -/
namespace Go.Pf
open Go.Pp

theorem mem_next {x : Ins} {t : Int} : t ∈ nextS x ↔ (x.Op = 21 ∧ t = x.N) ∨ (x.Op = 22 ∧ (t = x.N ∨ t = x.M)) := by
  unfold nextS
  by_cases h1 : x.Op = 21
  · simp [h1]
  · by_cases h2 : x.Op = 22
    · simp only [h2]
      rcases Int.lt_trichotomy x.N x.M with h | h | h
      · have : x.N ≠ x.M := by omega
        simp [*]
      · simp [*]
      · have : ¬ x.N < x.M := by omega
        have : x.N ≠ x.M := by omega
        simp [*]; exact Or.comm
    · simp [h1, h2]
theorem next_two {x : Ins} : 2 ≤ (nextS x).length ↔ x.Op = 22 ∧ x.N ≠ x.M := by
  unfold nextS
  by_cases h1 : x.Op = 21
  · simp [h1]
  · by_cases h2 : x.Op = 22
    · simp only [h2]
      by_cases h : x.N = x.M
      · simp [h]
      · by_cases h3 : x.N < x.M <;> simp [h, h3]
    · simp [h1, h2]
theorem next_nodup (x : Ins) : (nextS x).Nodup := by
  unfold nextS
  by_cases h1 : x.Op = 21
  · simp [h1]
  · by_cases h2 : x.Op = 22
    · simp only [h2]
      by_cases h : x.N = x.M
      · simp [h]
      · by_cases h3 : x.N < x.M
        · simp [h, h3]
        · simp [h, h3, Ne.symm h]
    · simp [h1, h2]

/-- the last instruction of a block -/
def lastI (f : Func) (i : Nat) : Option Ins := (f.Blocks[i]?).bind fun b => b.Code.getLast?
theorem nxF_last {f : Func} {i : Nat} : nxF f (i : Int) = match lastI f i with | some x => nextS x | none => [] := by
  unfold nxF lastI ixL nxB
  rw [if_pos (by omega), Int.toNat_natCast]
  cases f.Blocks[i]? with
  | none => rfl
  | some b =>
    show (match b.Code.getLast? with | some x => nextS x | none => []) = _
    rfl
theorem mem_nx {f : Func} {i : Nat} {t : Int} : t ∈ nxF f (i : Int) ↔ ∃ x, lastI f i = some x ∧ t ∈ nextS x := by
  rw [nxF_last]
  cases lastI f i with
  | none => simp
  | some x => simp
theorem lastI_lt {f : Func} {i : Nat} {x : Ins} (h : lastI f i = some x) : i < f.Blocks.length := by
  unfold lastI at h
  cases hb : f.Blocks[i]? with
  | none => rw [hb] at h; cases h
  | some b => exact (List.getElem?_eq_some_iff.1 hb).1
theorem edg_mem2 {f : Func} {e : Edge} : e ∈ edgF f ↔ ∃ (i : Nat) (x : Ins), lastI f i = some x ∧ e.From = (i : Int) ∧ e.To ∈ nextS x := by
  rw [edg_mem]
  constructor
  · rintro ⟨i, hi, h1, h2⟩
    obtain ⟨x, hx, ht⟩ := mem_nx.1 h2
    exact ⟨i, x, hx, h1, ht⟩
  · rintro ⟨i, x, hx, h1, h2⟩
    exact ⟨i, lastI_lt hx, h1, mem_nx.2 ⟨x, hx, h2⟩⟩
theorem edg_nodup (f : Func) : (edgF f).Nodup := by
  unfold edgF List.Nodup
  rw [List.pairwise_flatMap]
  constructor
  · intro i _
    unfold edgB
    rw [List.pairwise_map]
    have hx : (nxF f (i : Int)).Nodup := by
      rw [nxF_last]
      cases lastI f i with
      | none => exact List.Pairwise.nil
      | some x => exact next_nodup x
    refine List.Pairwise.imp ?_ hx
    intro a b hab h
    exact hab (Edge.mk.inj h).2
  · refine List.Pairwise.imp ?_ (List.nodup_range (n := f.Blocks.length))
    intro i j hij e h1 e2 h2 he
    unfold edgB at h1 h2
    obtain ⟨a, _, rfl⟩ := List.mem_map.1 h1
    obtain ⟨b, _, rfl⟩ := List.mem_map.1 h2
    have := (Edge.mk.inj he).1
    exact hij (by omega)
theorem two_of_count {l : List Edge} {p : Edge → Bool} (hn : l.Nodup) (h : 2 ≤ l.countP p) : ∃ a b, a ∈ l ∧ b ∈ l ∧ a ≠ b ∧ p a = true ∧ p b = true := by
  rw [List.countP_eq_length_filter] at h
  have hs : (l.filter p).Nodup := List.Pairwise.filter p hn
  match hf : l.filter p with
  | [] => rw [hf] at h; simp at h
  | [a] => rw [hf] at h; simp at h
  | a :: b :: r =>
    have ha : a ∈ l.filter p := by rw [hf]; simp
    have hb : b ∈ l.filter p := by rw [hf]; simp
    rw [hf] at hs
    refine ⟨a, b, (List.mem_filter.1 ha).1, (List.mem_filter.1 hb).1, ?_, (List.mem_filter.1 ha).2, (List.mem_filter.1 hb).2⟩
    rw [List.nodup_cons] at hs
    intro e; subst e; exact hs.1 (by simp)
theorem count_of_two {l : List Edge} {p : Edge → Bool} {a b : Edge} (ha : a ∈ l) (hb : b ∈ l) (hab : a ≠ b) (pa : p a = true) (pb : p b = true) : 2 ≤ l.countP p := by
  rw [List.countP_eq_length_filter]
  have h1 : a ∈ l.filter p := List.mem_filter.2 ⟨ha, pa⟩
  have h2 : b ∈ l.filter p := List.mem_filter.2 ⟨hb, pb⟩
  match hf : l.filter p with
  | [] => rw [hf] at h1; simp at h1
  | [c] => rw [hf] at h1 h2; simp at h1 h2; exact absurd (h1.trans h2.symm) hab
  | _ :: _ :: r => simp

/-- critical: from a branch two ways, to a block with two edges -/
theorem crit_mem {f : Func} {e : Edge} : e ∈ critF f ↔ ∃ (i : Nat) (x : Ins), lastI f i = some x ∧ e.From = (i : Int) ∧ x.Op = 22 ∧ x.N ≠ x.M ∧ (e.To = x.N ∨ e.To = x.M) ∧ ∃ e' ∈ edgF f, e' ≠ e ∧ e'.To = e.To := by
  unfold critF
  rw [List.mem_filter]
  constructor
  · rintro ⟨hm, hc⟩
    obtain ⟨i, x, hx, hf, ht⟩ := edg_mem2.1 hm
    unfold critB at hc
    simp only [Bool.and_eq_true, decide_eq_true_eq] at hc
    obtain ⟨h1, h2⟩ := hc
    rw [hf, nxF_last, hx] at h2
    obtain ⟨h3, h4⟩ := next_two.1 h2
    refine ⟨i, x, hx, hf, h3, h4, ?_, ?_⟩
    · rcases mem_next.1 ht with h | h
      · omega
      · exact h.2
    · unfold cntF at h1
      obtain ⟨a, b, ha, hb, hab, pa, pb⟩ := two_of_count (edg_nodup f) h1
      by_cases hae : a = e
      · subst hae; exact ⟨b, hb, Ne.symm hab, by simpa using pb⟩
      · exact ⟨a, ha, hae, by simpa using pa⟩
  · rintro ⟨i, x, hx, hf, h3, h4, ht, e', he', hne, hto⟩
    have hm : e ∈ edgF f := edg_mem2.2 ⟨i, x, hx, hf, mem_next.2 (.inr ⟨h3, ht⟩)⟩
    refine ⟨hm, ?_⟩
    unfold critB
    simp only [Bool.and_eq_true, decide_eq_true_eq]
    refine ⟨count_of_two he' hm hne (by simpa using hto) (by simp), ?_⟩
    rw [hf, nxF_last, hx]
    exact next_two.2 ⟨h3, h4⟩
theorem crit_nodup (f : Func) : (critF f).Nodup := List.Pairwise.filter _ (edg_nodup f)
end Go.Pf
end
section
/- Edges that are split: what Split makes of a function. -/
namespace Go.Pf
open Go.Pp

def renX (s : Int → Int) (x : Ins) : Ins := if x.Op == 22 then Ins.mk x.Op x.D x.A x.B (s x.N) (s x.M) x.Args else x
def blkR (s : Int → Int) (b : Block) : Block := match b.Code.getLast? with
  | some x => Block.mk (b.Code.dropLast ++ [renX s x])
  | none => b
/-- where an edge leads when the first k are split -/
def sig (L : List Edge) (n : Nat) : Nat → Nat → Int → Int
  | 0, _, t => t
  | k + 1, i, t => if L[k]? = some (Edge.mk (i : Int) t) then ((n + k : Nat) : Int) else sig L n k i t
def jmpB (e : Edge) : Block := Block.mk [Ins.mk 21 0 0 0 e.To 0 []]
def splB (f : Func) (L : List Edge) (k : Nat) : List Block := f.Blocks.mapIdx (fun i b => blkR (sig L f.Blocks.length k i) b) ++ (L.take k).map jmpB
def splF (f : Func) : Func := Func.mk f.Kinds f.Base f.Params f.Result (splB f (critF f) (critF f).length)

structure Wf (f : Func) : Prop where
  n1 : 1 ≤ f.Blocks.length
  n40 : f.Blocks.length ≤ 40
  len : ∀ b ∈ f.Blocks, 1 ≤ b.Code.length ∧ b.Code.length ≤ 40
  nx : ∀ i x, lastI f i = some x → ∀ v ∈ nextS x, 1 ≤ v ∧ v < f.Blocks.length

theorem sig_or (L : List Edge) (n : Nat) (i : Nat) (t : Int) : ∀ k, (sig L n k i t = t ∧ ∀ j, j < k → L[j]? ≠ some (Edge.mk (i : Int) t)) ∨ ∃ j, j < k ∧ L[j]? = some (Edge.mk (i : Int) t) ∧ sig L n k i t = ((n + j : Nat) : Int)
  | 0 => .inl ⟨rfl, fun j h => by omega⟩
  | k + 1 => by
    unfold sig
    by_cases h : L[k]? = some (Edge.mk (i : Int) t)
    · rw [if_pos h]; exact .inr ⟨k, by omega, h, rfl⟩
    · rw [if_neg h]
      rcases sig_or L n i t k with ⟨h1, h2⟩ | ⟨j, h1, h2, h3⟩
      · refine .inl ⟨h1, fun j hj => ?_⟩
        by_cases hjk : j = k
        · subst hjk; exact h
        · exact h2 j (by omega)
      · exact .inr ⟨j, by omega, h2, h3⟩
theorem sig_skip {L : List Edge} {n k i : Nat} {t : Int} (h : L[k]? ≠ some (Edge.mk (i : Int) t)) : sig L n (k + 1) i t = sig L n k i t := by
  show (if _ then _ else _) = _
  rw [if_neg h]
theorem sig_hit {L : List Edge} {n k i : Nat} {t : Int} (h : L[k]? = some (Edge.mk (i : Int) t)) : sig L n (k + 1) i t = ((n + k : Nat) : Int) := by
  show (if _ then _ else _) = _
  rw [if_pos h]
theorem nodup_ix {L : List Edge} (h : L.Nodup) {i j : Nat} {e : Edge} (hi : L[i]? = some e) (hj : L[j]? = some e) : i = j := by
  obtain ⟨hi1, hi2⟩ := List.getElem?_eq_some_iff.1 hi
  obtain ⟨hj1, hj2⟩ := List.getElem?_eq_some_iff.1 hj
  rcases Nat.lt_trichotomy i j with h' | h' | h'
  · exact absurd (hi2.trans hj2.symm) (List.pairwise_iff_getElem.1 h i j hi1 hj1 h')
  · exact h'
  · exact absurd (hj2.trans hi2.symm) (List.pairwise_iff_getElem.1 h j i hj1 hi1 h')

theorem blkR_last {b : Block} {x : Ins} (h : b.Code.getLast? = some x) (s : Int → Int) : blkR s b = Block.mk (b.Code.dropLast ++ [renX s x]) := by
  unfold blkR; rw [h]
theorem lead_f {c : List Ins} {x : Ins} (hc : c.length ≤ 1000) (t k : Int) : edge_lead (Block.mk (c ++ [x])) t k = some (Block.mk (c ++ [if x.N == t then Ins.mk x.Op x.D x.A x.B k x.M x.Args else Ins.mk x.Op x.D x.A x.B x.N k x.Args])) := by
  unfold edge_lead slices_Clone_Ins
  simp only
  rw [appL_ok (by simp; omega), Option.bind_some, List.nil_append]
  have e : w64 (((c ++ [x]).length : Int) - 1) = (c.length : Int) := by simp only [List.length_append, List.length_singleton]; rw [w64_id (by omega) (by omega)]; omega
  rw [e, ixL_of (x := x) (by simp), Option.bind_some]
  have u : ∀ y, updL (c ++ [x]) (c.length : Int) y = some (c ++ [y]) := fun y => by
    unfold updL
    rw [if_pos (by simp; omega), Int.toNat_natCast]
    congr 1
    rw [List.set_append_right _ _ (Nat.le_refl _)]
    simp
  simp only [u, Option.bind_some]
  split <;> rfl

theorem splB_len (f : Func) (L : List Edge) {k : Nat} (hk : k ≤ L.length) : (splB f L k).length = f.Blocks.length + k := by
  unfold splB; simp; omega
theorem splB_old {f : Func} {L : List Edge} {k i : Nat} {b : Block} (h : f.Blocks[i]? = some b) : (splB f L k)[i]? = some (blkR (sig L f.Blocks.length k i) b) := by
  unfold splB
  obtain ⟨hi, _⟩ := List.getElem?_eq_some_iff.1 h
  rw [List.getElem?_append_left (by simpa using hi), List.getElem?_mapIdx, h]; rfl
theorem splB_new {f : Func} {L : List Edge} {k j : Nat} {e : Edge} (hj : j < k) (h : L[j]? = some e) : (splB f L k)[f.Blocks.length + j]? = some (jmpB e) := by
  unfold splB
  rw [List.getElem?_append_right (by simp), List.getElem?_map]
  simp [List.getElem?_take, hj, h]

theorem lastI_of {f : Func} {i : Nat} {x : Ins} (h : lastI f i = some x) : ∃ b, f.Blocks[i]? = some b ∧ b.Code.getLast? = some x := by
  unfold lastI at h
  cases hb : f.Blocks[i]? with
  | none => rw [hb] at h; cases h
  | some b => rw [hb] at h; exact ⟨b, rfl, h⟩

theorem splB_step {f : Func} (W : Wf f) {k : Nat} (hk : k < (critF f).length) (hl : f.Blocks.length + (critF f).length ≤ 40) :
    edge_Split.b1 (critF f) k (splB f (critF f) k) = some (.next (splB f (critF f) (k + 1))) := by
  have hn := crit_nodup f
  obtain ⟨i, x, hx, hfr, hop, hnm, hto, _⟩ := crit_mem.1 (List.getElem_mem hk)
  have hLk : (critF f)[k]? = some (critF f)[k] := List.getElem?_eq_getElem hk
  have hmem : ∀ j e, (critF f)[j]? = some e → e ∈ critF f := fun j e h => List.mem_of_getElem? h
  have hbnd : 1 ≤ (critF f)[k].To ∧ (critF f)[k].To < f.Blocks.length := W.nx i x hx _ (mem_next.2 (.inr ⟨hop, hto⟩))
  revert hfr hto hLk hbnd
  generalize hE : (critF f)[k] = e
  intro hfr hto hLk hbnd
  obtain ⟨fr, to⟩ := e
  simp only at hfr hto hbnd
  subst hfr
  obtain ⟨b, hb, hbl⟩ := lastI_of hx
  have hbm := List.mem_of_getElem? hb
  have hlen := W.len b hbm
  have hi := lastI_lt hx
  -- where its ways lead when the first k are split
  have hnone : ∀ j, j < k → (critF f)[j]? ≠ some (Edge.mk (i : Int) to) := fun j hj h => by
    have := nodup_ix hn h hLk; omega
  have ht : sig (critF f) f.Blocks.length k i to = to := by
    rcases sig_or (critF f) f.Blocks.length i to k with h | ⟨j, h1, h2, _⟩
    · exact h.1
    · exact absurd h2 (hnone j h1)
  have hother : ∀ t, t ≠ to → sig (critF f) f.Blocks.length k i t ≠ to ∨ t = to := fun t htt => by
    left
    rcases sig_or (critF f) f.Blocks.length i t k with h | ⟨j, h1, h2, h3⟩
    · rw [h.1]; exact htt
    · rw [h3]; omega
  have hskip : ∀ t, t ≠ to → sig (critF f) f.Blocks.length (k + 1) i t = sig (critF f) f.Blocks.length k i t := fun t htt => sig_skip (by rw [hLk]; intro h; exact htt (Edge.mk.inj (Option.some.inj h)).2.symm)
  have hnew : (blkR (sig (critF f) f.Blocks.length (k + 1) i) b) = Block.mk (b.Code.dropLast ++ [if (renX (sig (critF f) f.Blocks.length k i) x).N == to then Ins.mk x.Op x.D x.A x.B ((f.Blocks.length + k : Nat) : Int) (renX (sig (critF f) f.Blocks.length k i) x).M x.Args else Ins.mk x.Op x.D x.A x.B (renX (sig (critF f) f.Blocks.length k i) x).N ((f.Blocks.length + k : Nat) : Int) x.Args]) := by
    rw [blkR_last hbl]
    congr 3
    unfold renX
    simp only [hop, beq_self_eq_true, if_true]
    rcases hto with hto | hto
    · have h1 : x.M ≠ to := fun h => hnm (by omega)
      rw [hto] at ht
      have hh : sig (critF f) f.Blocks.length (k + 1) i x.N = ((f.Blocks.length + k : Nat) : Int) := sig_hit (by rw [hLk, hto])
      rw [hh, hskip _ h1, ht, hto]; simp
    · have h1 : x.N ≠ to := fun h => hnm (by omega)
      have hh : sig (critF f) f.Blocks.length (k + 1) i x.M = ((f.Blocks.length + k : Nat) : Int) := sig_hit (by rw [hLk, hto])
      have h2 : (sig (critF f) f.Blocks.length k i x.N == to) = false := by
        rcases hother _ h1 with h | h
        · simpa using h
        · exact absurd h h1
      rw [hh, hskip _ h1, h2]; simp
  simp only [edge_Split.b1]
  rw [ixL_of hLk, Option.bind_some]
  simp only
  rw [ixL_of (splB_old hb), Option.bind_some, blkR_last hbl, lead_f (by simp; omega), Option.bind_some, splB_len f _ (by omega)]
  have hrx : (renX (sig (critF f) f.Blocks.length k i) x).Op = x.Op ∧ (renX (sig (critF f) f.Blocks.length k i) x).D = x.D ∧ (renX (sig (critF f) f.Blocks.length k i) x).A = x.A ∧ (renX (sig (critF f) f.Blocks.length k i) x).B = x.B ∧ (renX (sig (critF f) f.Blocks.length k i) x).Args = x.Args := by
    unfold renX; simp [hop]
  obtain ⟨r1, r2, r3, r4, r5⟩ := hrx
  rw [r1, r2, r3, r4, r5, ← hnew]
  have hu : updL (splB f (critF f) k) (i : Int) (blkR (sig (critF f) f.Blocks.length (k + 1) i) b) = some ((splB f (critF f) k).set i (blkR (sig (critF f) f.Blocks.length (k + 1) i) b)) := by
    unfold updL
    rw [if_pos (by rw [splB_len f _ (by omega)]; omega), Int.toNat_natCast]
  rw [hu, Option.bind_some, appL_ok (by simp [splB_len f _ (Nat.le_of_lt hk)]; omega), Option.bind_some]
  congr 2
  unfold splB
  rw [List.set_append_left _ _ (by simpa using hi), List.append_assoc]
  congr 1
  · apply List.ext_getElem?
    intro j
    by_cases hji : j = i
    · subst hji
      rw [List.getElem?_set_self (by simpa using hi), List.getElem?_mapIdx, hb]; rfl
    · rw [List.getElem?_set_ne (Ne.symm hji), List.getElem?_mapIdx, List.getElem?_mapIdx]
      cases hbj : f.Blocks[j]? with
      | none => rfl
      | some c =>
        have : sig (critF f) f.Blocks.length (k + 1) j = sig (critF f) f.Blocks.length k j := by
          funext t
          exact sig_skip (by rw [hLk]; intro h; have := (Edge.mk.inj (Option.some.inj h)).1; omega)
        simp only [Option.map_some, this]
  · rw [List.take_add_one, hLk, List.map_append]; rfl

theorem crit_len {f : Func} (h : okF1 f) (W : Wf f) : (critF f).length ≤ 80 := by
  have := (edges_f h (by have := W.n40; omega)).2
  have h2 := W.n40
  unfold critF
  have := List.length_filter_le (critB f) (edgF f)
  omega
theorem okT_of {f : Func} (W : Wf f) : okT f := by
  refine ⟨by have := W.n40; omega, fun e he => ?_⟩
  obtain ⟨i, x, hx, _, ht⟩ := edg_mem2.1 he
  have := W.nx i x hx _ ht
  omega
theorem split_f {f : Func} (h : okF1 f) (W : Wf f) : edge_Split f = some (if f.Blocks.length + (critF f).length ≤ 40 then (splF f, 0) else (Func.mk [] [] 0 0 [], 9)) := by
  have h80 := crit_len h W
  have h40 := W.n40
  unfold edge_Split
  rw [crit_f h (okT_of W), Option.bind_some, w64_id (by omega) (by omega)]
  by_cases hl : f.Blocks.length + (critF f).length ≤ 40
  · have e1 : ¬ (40 < (f.Blocks.length : Int) + ((critF f).length : Int)) := by omega
    rw [if_pos hl]
    simp only [e1, decide_false, Bool.false_eq_true, ↓reduceIte]
    unfold slices_Clone_Block
    rw [appL_ok (by simp; omega), Option.bind_some, List.nil_append]
    have h0 : splB f (critF f) 0 = f.Blocks := by
      unfold splB
      rw [List.take_zero, List.map_nil, List.append_nil]
      apply List.ext_getElem?
      intro j
      rw [List.getElem?_mapIdx]
      cases hb : f.Blocks[j]? with
      | none => rfl
      | some b =>
        simp only [Option.map_some]
        unfold blkR
        cases hbl : b.Code.getLast? with
        | none => rfl
        | some x =>
          have : renX (sig (critF f) f.Blocks.length 0 j) x = x := by unfold renX sig; split <;> rfl
          simp only [this]
          have hne : b.Code ≠ [] := by intro h; rw [h] at hbl; simp at hbl
          have := List.dropLast_concat_getLast hne
          rw [List.getLast?_eq_some_getLast hne] at hbl
          rw [← Option.some.inj hbl, this]
    obtain ⟨o, ho, hq⟩ := forN_rule (body := edge_Split.b1 (critF f)) (s := f.Blocks) (n := (critF f).length) (fun k s => s = splB f (critF f) k) (fun o => o = .next (splB f (critF f) (critF f).length)) (by omega) h0.symm
      (fun k s hk hs => by subst hs; exact ⟨_, splB_step W hk hl, rfl⟩) (fun s hs => by rw [hs])
    subst hq
    rw [aft_next ho]; rfl
  · have e1 : (40 < (f.Blocks.length : Int) + ((critF f).length : Int)) := by omega
    rw [if_neg hl]
    simp only [e1, decide_true, ↓reduceIte]
end Go.Pf
end
section
/- Edges that are split: what was split has no critical edge. -/
namespace Go.Pf
open Go.Pp

def sg (f : Func) (i : Nat) : Int → Int := sig (critF f) f.Blocks.length (critF f).length i
theorem sg_or (f : Func) (i : Nat) (t : Int) : (sg f i t = t ∧ Edge.mk (i : Int) t ∉ critF f) ∨ ∃ j : Nat, (critF f)[j]? = some (Edge.mk (i : Int) t) ∧ sg f i t = ((f.Blocks.length + j : Nat) : Int) := by
  rcases sig_or (critF f) f.Blocks.length i t (critF f).length with ⟨h1, h2⟩ | ⟨j, h1, h2, h3⟩
  · refine .inl ⟨h1, fun hm => ?_⟩
    obtain ⟨j, hj, he⟩ := List.mem_iff_getElem.1 hm
    exact h2 j hj (by rw [List.getElem?_eq_getElem hj, he])
  · exact .inr ⟨j, h2, h3⟩
def jmpI (e : Edge) : Ins := Ins.mk 21 0 0 0 e.To 0 []

theorem spl_old {f : Func} {i : Nat} {b : Block} (h : f.Blocks[i]? = some b) : (splF f).Blocks[i]? = some (blkR (sg f i) b) := splB_old h
theorem spl_new {f : Func} {j : Nat} {e : Edge} (h : (critF f)[j]? = some e) : (splF f).Blocks[f.Blocks.length + j]? = some (jmpB e) :=
  splB_new (List.getElem?_eq_some_iff.1 h).1 h
theorem spl_len (f : Func) : (splF f).Blocks.length = f.Blocks.length + (critF f).length := splB_len f _ (Nat.le_refl _)
theorem spl_inv {f : Func} {i : Nat} {c : Block} (h : (splF f).Blocks[i]? = some c) : (∃ b, f.Blocks[i]? = some b ∧ c = blkR (sg f i) b) ∨ ∃ j e, i = f.Blocks.length + j ∧ (critF f)[j]? = some e ∧ c = jmpB e := by
  have hi := (List.getElem?_eq_some_iff.1 h).1
  rw [spl_len] at hi
  by_cases hn : i < f.Blocks.length
  · have hb := List.getElem?_eq_getElem hn
    rw [spl_old hb] at h
    exact .inl ⟨_, hb, (Option.some.inj h).symm⟩
  · obtain ⟨j, rfl⟩ : ∃ j, i = f.Blocks.length + j := ⟨i - f.Blocks.length, by omega⟩
    have hj : j < (critF f).length := by omega
    have he := List.getElem?_eq_getElem hj
    rw [spl_new he] at h
    exact .inr ⟨j, _, rfl, he, (Option.some.inj h).symm⟩
theorem blkR_get {b : Block} {x : Ins} (h : b.Code.getLast? = some x) (s : Int → Int) : (blkR s b).Code.getLast? = some (renX s x) := by
  rw [blkR_last h]; simp
theorem last_inv {f : Func} {i : Nat} {y : Ins} (h : lastI (splF f) i = some y) : (∃ x, lastI f i = some x ∧ y = renX (sg f i) x) ∨ ∃ j e, i = f.Blocks.length + j ∧ (critF f)[j]? = some e ∧ y = jmpI e := by
  obtain ⟨c, hc, hl⟩ := lastI_of h
  rcases spl_inv hc with ⟨b, hb, rfl⟩ | ⟨j, e, h1, h2, rfl⟩
  · left
    cases hbl : b.Code.getLast? with
    | none => unfold blkR at hl; rw [hbl] at hl; simp only at hl; rw [hbl] at hl; cases hl
    | some x =>
      rw [blkR_get hbl] at hl
      exact ⟨x, by unfold lastI; rw [hb]; exact hbl, (Option.some.inj hl).symm⟩
  · right
    refine ⟨j, e, h1, h2, ?_⟩
    unfold jmpB at hl
    simp at hl
    exact hl.symm
theorem last_old {f : Func} {i : Nat} {x : Ins} (h : lastI f i = some x) : lastI (splF f) i = some (renX (sg f i) x) := by
  obtain ⟨b, hb, hl⟩ := lastI_of h
  unfold lastI
  rw [spl_old hb]
  exact blkR_get hl _

theorem renX_op (s : Int → Int) (x : Ins) : (renX s x).Op = x.Op := by unfold renX; split <;> rfl
theorem renX_22 {s : Int → Int} {x : Ins} (h : x.Op = 22) : (renX s x).N = s x.N ∧ (renX s x).M = s x.M := by unfold renX; simp [h]
theorem renX_no {s : Int → Int} {x : Ins} (h : x.Op ≠ 22) : renX s x = x := by unfold renX; simp [h]

/-- the edges of what was split -/
theorem edg_spl {f : Func} (W : Wf f) {e : Edge} (h : e ∈ edgF (splF f)) :
    (∃ (i : Nat) (x : Ins) (u : Int), lastI f i = some x ∧ e.From = (i : Int) ∧ u ∈ nextS x ∧ ((e.To = u ∧ (x.Op = 22 → Edge.mk (i : Int) u ∉ critF f)) ∨ (x.Op = 22 ∧ ∃ j : Nat, (critF f)[j]? = some (Edge.mk (i : Int) u) ∧ e.To = ((f.Blocks.length + j : Nat) : Int)))) ∨
    ∃ j e', (critF f)[j]? = some e' ∧ e.From = ((f.Blocks.length + j : Nat) : Int) ∧ e.To = e'.To := by
  obtain ⟨i, y, hy, hf, ht⟩ := edg_mem2.1 h
  rcases last_inv hy with ⟨x, hx, rfl⟩ | ⟨j, e', h1, h2, rfl⟩
  · left
    by_cases h22 : x.Op = 22
    · rcases mem_next.1 ht with ⟨ho, _⟩ | ⟨_, ho⟩
      · rw [renX_op] at ho; omega
      · rw [(renX_22 h22).1, (renX_22 h22).2] at ho
        have : ∃ u, (u = x.N ∨ u = x.M) ∧ e.To = sg f i u := by
          rcases ho with h | h
          · exact ⟨_, .inl rfl, h⟩
          · exact ⟨_, .inr rfl, h⟩
        obtain ⟨u, hu, he⟩ := this
        refine ⟨i, x, u, hx, hf, mem_next.2 (.inr ⟨h22, hu⟩), ?_⟩
        rcases sg_or f i u with ⟨h1, h2⟩ | ⟨j, h1, h2⟩
        · exact .inl ⟨by rw [he, h1], fun _ => h2⟩
        · exact .inr ⟨h22, j, h1, by rw [he, h2]⟩
    · rw [renX_no h22] at ht
      exact ⟨i, x, e.To, hx, hf, ht, .inl ⟨rfl, fun h => absurd h h22⟩⟩
  · right
    refine ⟨j, e', h2, by rw [hf, h1], ?_⟩
    unfold jmpI at ht
    rcases mem_next.1 ht with ⟨_, h⟩ | ⟨h, _⟩
    · exact h
    · simp at h

theorem crit_none {f : Func} (W : Wf f) : critF (splF f) = [] := by
  rw [List.eq_nil_iff_forall_not_mem]
  intro e he
  obtain ⟨i, y, hy, hfr, h22, hne, hto, e', he', hee, htt⟩ := crit_mem.1 he
  rcases last_inv hy with ⟨x, hx, rfl⟩ | ⟨j, e2, h1, h2, rfl⟩
  · rw [renX_op] at h22
    rw [(renX_22 h22).1, (renX_22 h22).2] at hne hto
    have hxne : x.N ≠ x.M := fun h => hne (by rw [h])
    have : ∃ u, (u = x.N ∨ u = x.M) ∧ e.To = sg f i u := by
      rcases hto with h | h
      · exact ⟨_, .inl rfl, h⟩
      · exact ⟨_, .inr rfl, h⟩
    obtain ⟨u, hu, heu⟩ := this
    have hun : u ∈ nextS x := mem_next.2 (.inr ⟨h22, hu⟩)
    have hub := W.nx i x hx u hun
    have hedge : Edge.mk (i : Int) u ∈ edgF f := edg_mem2.2 ⟨i, x, hx, rfl, hun⟩
    -- another edge of the function to the same block makes this one critical
    have hcr : ∀ d ∈ edgF f, d ≠ Edge.mk (i : Int) u → d.To = u → Edge.mk (i : Int) u ∈ critF f := fun d hd h1 h2 =>
      crit_mem.2 ⟨i, x, hx, rfl, h22, hxne, hu, d, hd, h1, h2⟩
    rcases sg_or f i u with ⟨h1, h2⟩ | ⟨j, h1, h2⟩
    · rw [h1] at heu
      rcases edg_spl W he' with ⟨i', x', u', hx', hf', hu', hc⟩ | ⟨j, e2, h3, h4, h5⟩
      · have hub' := W.nx i' x' hx' u' hu'
        rcases hc with ⟨h6, _⟩ | ⟨_, j, h6, h7⟩
        · have : e' = Edge.mk (i' : Int) u := by cases e'; simp only at hf' h6 htt; rw [hf', htt, heu]
          subst this
          refine h2 (hcr _ (edg_mem2 (e := Edge.mk (i' : Int) u) |>.2 ⟨i', x', hx', rfl, by simp only at h6 ⊢; rw [h6]; exact hu'⟩) (fun h => hee ?_) rfl)
          rw [h]; cases e; simp only at hfr heu; rw [hfr, heu]
        · omega
      · have hm : e2 ∈ critF f := List.mem_of_getElem? h3
        have hm2 : e2 ∈ edgF f := (List.mem_filter.1 hm).1
        by_cases heq : e2 = Edge.mk (i : Int) u
        · subst heq; exact h2 hm
        · exact h2 (hcr e2 hm2 heq (by omega))
    · rw [h2] at heu
      rcases edg_spl W he' with ⟨i', x', u', hx', hf', hu', hc⟩ | ⟨j', e2, h3, h4, h5⟩
      · have hub' := W.nx i' x' hx' u' hu'
        rcases hc with ⟨h6, _⟩ | ⟨_, j', h6, h7⟩
        · omega
        · have : j' = j := by omega
          subst this
          rw [h1] at h6
          have := (Edge.mk.inj (Option.some.inj h6)).1
          refine hee ?_
          cases e'; cases e
          simp only at hf' hfr htt
          rw [hf', hfr, htt, this]
      · have hm : e2 ∈ critF f := List.mem_of_getElem? h3
        obtain ⟨i3, x3, hx3, hf3, ht3⟩ := edg_mem2.1 (List.mem_filter.1 hm).1
        have := W.nx i3 x3 hx3 _ ht3
        omega
  · unfold jmpI at h22; simp at h22

theorem spl_next {f : Func} (W : Wf f) {i : Nat} {y : Ins} (h : lastI (splF f) i = some y) : ∀ v ∈ nextS y, 1 ≤ v ∧ v < (splF f).Blocks.length := by
  intro v hv
  rw [spl_len]
  have he : Edge.mk (i : Int) v ∈ edgF (splF f) := edg_mem2.2 ⟨i, y, h, rfl, hv⟩
  rcases edg_spl W he with ⟨i', x', u', hx', hf', hu', hc⟩ | ⟨j, e2, h3, h4, h5⟩
  · have hub' := W.nx i' x' hx' u' hu'
    rcases hc with ⟨h6, _⟩ | ⟨_, j, h6, h7⟩
    · simp only at h6; omega
    · have := (List.getElem?_eq_some_iff.1 h6).1
      have := W.n1
      simp only at h7; omega
  · have hm : e2 ∈ critF f := List.mem_of_getElem? h3
    obtain ⟨i3, x3, hx3, hf3, ht3⟩ := edg_mem2.1 (List.mem_filter.1 hm).1
    have := W.nx i3 x3 hx3 _ ht3
    simp only at h5
    omega
end Go.Pf
end
section
/- Edges that are split: what was split may be. -/
namespace Go.Pf
open Go.Pp

theorem wI_iff {x lo hi : Int} : wI x lo hi = true ↔ lo ≤ x ∧ x ≤ hi := by unfold wI; exact decide_eq_true_iff
theorem blockS_iff {b : Block} : blockS b = true ↔ (1 ≤ b.Code.length ∧ b.Code.length ≤ 40) ∧ ∀ (i : Nat) (x : Ins), b.Code[i]? = some x → lastS x.Op = ((i : Int) == nQ b.Code.length) := by
  unfold blockS
  rw [Bool.and_eq_true, wI_iff, List.all_eq_true]
  constructor
  · rintro ⟨h1, h2⟩
    refine ⟨by omega, fun i x hx => ?_⟩
    have hi := (List.getElem?_eq_some_iff.1 hx).1
    have := h2 i (by simpa using hi)
    unfold lastAt at this
    rw [hx] at this
    exact eq_of_beq this
  · rintro ⟨h1, h2⟩
    refine ⟨by omega, fun i hi => ?_⟩
    have hi : i < b.Code.length := by simpa using hi
    unfold lastAt
    rw [List.getElem?_eq_getElem hi]
    simp only
    rw [h2 i _ (List.getElem?_eq_getElem hi)]
    simp
theorem dropLast_get {c : List Ins} {x : Ins} (h : c.getLast? = some x) : c.dropLast ++ [x] = c := by
  have hne : c ≠ [] := by intro e; rw [e] at h; simp at h
  rw [List.getLast?_eq_some_getLast hne] at h
  rw [← Option.some.inj h]
  exact List.dropLast_concat_getLast hne
theorem blkR_len {b : Block} (s : Int → Int) : (blkR s b).Code.length = b.Code.length := by
  cases h : b.Code.getLast? with
  | none => unfold blkR; rw [h]
  | some x =>
    rw [blkR_last h]
    have := congrArg List.length (dropLast_get h)
    simp at this ⊢
    omega
theorem blkR_op {b : Block} {s : Int → Int} {i : Nat} {y : Ins} (h : (blkR s b).Code[i]? = some y) : ∃ x, b.Code[i]? = some x ∧ x.Op = y.Op := by
  cases hl : b.Code.getLast? with
  | none => unfold blkR at h; rw [hl] at h; exact ⟨y, h, rfl⟩
  | some x =>
    rw [blkR_last hl] at h
    simp only at h
    have hd := dropLast_get hl
    by_cases hi : i < b.Code.dropLast.length
    · rw [List.getElem?_append_left hi] at h
      refine ⟨y, ?_, rfl⟩
      rw [← hd, List.getElem?_append_left hi]
      exact h
    · rw [List.getElem?_append_right (by omega)] at h
      refine ⟨x, ?_, ?_⟩
      · rw [← hd, List.getElem?_append_right (by omega)]
        have : i - b.Code.dropLast.length = 0 := by
          have := (List.getElem?_eq_some_iff.1 h).1
          simp only [List.length_singleton] at this; omega
        rw [this]; rfl
      · have : i - b.Code.dropLast.length = 0 := by
          have := (List.getElem?_eq_some_iff.1 h).1
          simp only [List.length_singleton] at this; omega
        rw [this] at h
        simp only [List.getElem?_cons_zero, Option.some.injEq] at h
        rw [← h, renX_op]
theorem blkR_mem {b : Block} {s : Int → Int} {y : Ins} (h : y ∈ (blkR s b).Code) : y ∈ b.Code ∨ ∃ x, b.Code.getLast? = some x ∧ x ∈ b.Code ∧ y = renX s x := by
  cases hl : b.Code.getLast? with
  | none => unfold blkR at h; rw [hl] at h; exact .inl h
  | some x =>
    rw [blkR_last hl] at h
    simp only [List.mem_append, List.mem_singleton] at h
    rcases h with h | h
    · exact .inl (List.dropLast_subset _ h)
    · exact .inr ⟨x, rfl, List.mem_of_getLast? hl, h⟩
theorem block_blkR {b : Block} {s : Int → Int} (h : blockS b = true) : blockS (blkR s b) = true := by
  rw [blockS_iff] at h ⊢
  rw [blkR_len]
  refine ⟨h.1, fun i y hy => ?_⟩
  obtain ⟨x, hx, ho⟩ := blkR_op hy
  rw [← ho]; exact h.2 i x hx
theorem block_jmp (e : Edge) : blockS (jmpB e) = true := by
  rw [blockS_iff]
  unfold jmpB
  refine ⟨by simp, fun i x hx => ?_⟩
  have hi := (List.getElem?_eq_some_iff.1 hx).1
  simp only [List.length_singleton] at hi
  have : i = 0 := by omega
  subst this
  simp at hx
  subst hx
  rfl

/-- what a function that may be is known to be -/
theorem func_parts {f : Func} (h : funcS f = true) : 1 ≤ f.Blocks.length ∧ f.Blocks.length ≤ 40 ∧ ∀ b ∈ f.Blocks, blockS b = true := by
  unfold funcS at h
  simp only [Bool.and_eq_true] at h
  obtain ⟨_, _, _, _, hb, hall⟩ := h
  rw [wI_iff] at hb
  exact ⟨by omega, by omega, fun b hm => List.all_eq_true.1 hall b hm⟩
theorem wf_of {p : Prog} {i : Nat} (hi : i < p.Funcs.length) (h1 : funcS p.Funcs[i] = true) (h2 : codeS p (i : Int) p.Funcs[i] = true) : Wf p.Funcs[i] := by
  obtain ⟨a, b, c⟩ := func_parts h1
  refine ⟨a, b, fun b hb => (blockS_iff.1 (c b hb)).1, fun j x hx v hv => ?_⟩
  obtain ⟨b, hb, hl⟩ := lastI_of hx
  have hbm := List.mem_of_getElem? hb
  have hxm := List.mem_of_getLast? hl
  exact inF_next (code_ins h2 hbm hxm) v hv
theorem func_spl {f : Func} (h : funcS f = true) (hl : f.Blocks.length + (critF f).length ≤ 40) : funcS (splF f) = true := by
  obtain ⟨a, b, c⟩ := func_parts h
  unfold funcS at h ⊢
  simp only [Bool.and_eq_true] at h ⊢
  obtain ⟨h1, h2, h3, h4, h5, h6⟩ := h
  refine ⟨h1, h2, h3, h4, ?_, ?_⟩
  · rw [wI_iff, spl_len]; omega
  · rw [List.all_eq_true]
    intro d hd
    obtain ⟨j, hj, rfl⟩ := List.mem_iff_getElem.1 hd
    rcases spl_inv (List.getElem?_eq_getElem hj) with ⟨b, hb, he⟩ | ⟨k, e, _, _, he⟩
    · rw [he]; exact block_blkR (c b (List.mem_of_getElem? hb))
    · rw [he]; exact block_jmp e

def splP (p : Prog) : Prog := Prog.mk (p.Funcs.map splF)
theorem spl_ix {p : Prog} {i : Int} : ixL (splP p).Funcs i = (ixL p.Funcs i).map splF := by
  unfold ixL splP
  split
  · simp
  · rfl
theorem num_spl (p : Prog) (x : Ins) : numS (splP p) x = numS p x := by
  unfold numS
  rw [spl_ix]
  have : (splP p).Funcs.length = p.Funcs.length := by simp [splP]
  rw [this]
  cases ixL p.Funcs x.N <;> rfl
theorem touch_ren (s : Int → Int) (x : Ins) : touchS (renX s x) = touchS x := by
  unfold renX
  split <;> rfl
theorem ins_spl {p : Prog} {i : Nat} (hi : i < p.Funcs.length) (W : Wf p.Funcs[i]) (h : codeS p (i : Int) p.Funcs[i] = true) : codeS (splP p) (i : Int) (splF p.Funcs[i]) = true := by
  unfold codeS
  rw [List.all_eq_true]
  intro c hc
  rw [List.all_eq_true]
  intro y hy
  obtain ⟨j, hj, rfl⟩ := List.mem_iff_getElem.1 hc
  have hlen : (splP p).Funcs.length = p.Funcs.length := by simp [splP]
  have hixp : ixL p.Funcs (i : Int) = some p.Funcs[i] := ixL_lt hi
  -- an instruction of the function stays as it was
  have keep : ∀ b, b ∈ p.Funcs[i].Blocks → ∀ x, x ∈ b.Code → insS p (i : Int) x = true := fun b hb x hx => List.all_eq_true.1 (List.all_eq_true.1 h b hb) x hx
  have old : ∀ x, insS p (i : Int) x = true → insS (splP p) (i : Int) x = true := by
    intro x hx
    unfold insS at hx ⊢
    rw [hixp] at hx
    rw [num_spl, spl_ix, hixp, hlen]
    simp only [Option.map_some, Bool.and_eq_true] at hx ⊢
    obtain ⟨h1, h2, h3, h4, h5⟩ := hx
    refine ⟨h1, h2, h3, h4, ?_⟩
    unfold inF at h5 ⊢
    rw [Bool.and_eq_true] at h5 ⊢
    refine ⟨h5.1, ?_⟩
    rw [List.all_eq_true] at h5 ⊢
    intro v hv
    have := h5.2
    rw [List.all_eq_true] at this
    have := wI_iff.1 (this v hv)
    rw [wI_iff, spl_len]
    unfold nQ at this ⊢
    omega
  rcases spl_inv (List.getElem?_eq_getElem hj) with ⟨b, hb, he⟩ | ⟨k, e, hjk, hk, he⟩
  · rw [he] at hy
    have hbm := List.mem_of_getElem? hb
    rcases blkR_mem hy with hy | ⟨x, hl, hx, rfl⟩
    · exact old y (keep b hbm y hy)
    · by_cases h22 : x.Op = 22
      · have hx0 := keep b hbm x hx
        have hnx : ∀ v ∈ nextS (renX (sg p.Funcs[i] j) x), 1 ≤ v ∧ v < (splF p.Funcs[i]).Blocks.length := spl_next W (i := j) (last_old (by unfold lastI; rw [hb]; exact hl))
        unfold insS at hx0 ⊢
        rw [hixp] at hx0
        rw [num_spl, spl_ix, hixp, hlen, renX_op]
        simp only [Option.map_some, Bool.and_eq_true] at hx0 ⊢
        obtain ⟨h1, h2, h3, h4, h5⟩ := hx0
        refine ⟨h1, h2, ?_, ?_, ?_⟩
        · unfold bareS at h3 ⊢
          rw [renX_op]
          rw [h22] at h3 ⊢
          have e1 : hasS 22 78 = true := by decide +kernel
          have e2 : hasS 22 77 = true := by decide +kernel
          rw [e1, e2] at h3 ⊢
          have r : (renX (sg p.Funcs[i] j) x).D = x.D ∧ (renX (sg p.Funcs[i] j) x).A = x.A ∧ (renX (sg p.Funcs[i] j) x).B = x.B ∧ (renX (sg p.Funcs[i] j) x).Args = x.Args := by unfold renX; simp [h22]
          rw [r.1, r.2.1, r.2.2.1, r.2.2.2]
          simpa using h3
        · unfold numS; rw [renX_op, h22]; simp
        · unfold inF at h5 ⊢
          rw [Bool.and_eq_true] at h5 ⊢
          rw [touch_ren]
          refine ⟨h5.1, ?_⟩
          rw [List.all_eq_true]
          intro v hv
          have := hnx v hv
          rw [wI_iff]; unfold nQ; omega
      · rw [renX_no h22]; exact old x (keep b hbm x hx)
  · rw [he] at hy
    unfold jmpB at hy
    simp only [List.mem_singleton] at hy
    subst hy
    have hnx := spl_next W (i := j) (y := jmpI e) (by unfold lastI; rw [List.getElem?_eq_getElem hj, he]; rfl)
    unfold insS
    rw [num_spl, spl_ix, hixp, hlen]
    have e1 : (ByteArray.toList (PS 21) == ByteArray.toList ({ data := #[] } : ByteArray)) = false := by decide +kernel
    have e2 : hasS 21 78 = true := by decide +kernel
    simp only [Option.map_some, Bool.and_eq_true]
    refine ⟨wI_iff.2 (by unfold nQ; omega), by rw [e1]; rfl, by unfold bareS; simp [e2], by unfold numS; simp, ?_⟩
    unfold inF
    rw [Bool.and_eq_true]
    refine ⟨?_, ?_⟩
    · have e3 : hasS 21 65 = false := by decide +kernel
      have e4 : hasS 21 66 = false := by decide +kernel
      have e5 : hasS 21 76 = false := by decide +kernel
      have e6 : hasS 21 68 = false := by decide +kernel
      unfold touchS useS setS
      simp [e3, e4, e5, e6]
    · rw [List.all_eq_true]
      intro v hv
      have := hnx v hv
      rw [wI_iff]; unfold nQ; omega
end Go.Pf
end
section
/- Edges that are split: the law. -/
namespace Go.Pf
open Go.Pp

def f13 : Func := Func.mk [0] [(-1)] 0 0 [Block.mk [Ins.mk 22 0 0 0 1 2 []], Block.mk [Ins.mk 21 0 0 0 2 0 []], Block.mk [Ins.mk 23 0 0 0 0 0 []]]
theorem f13_ok : okF1 f13 := by refine ⟨by decide, by decide, by decide, by decide⟩
theorem f13_wf : Wf f13 := by
  refine ⟨by decide, by decide, by decide, fun i x hx => ?_⟩
  have hi : i < 3 := lastI_lt hx
  have : i = 0 ∨ i = 1 ∨ i = 2 := by omega
  rcases this with rfl | rfl | rfl
  · have : x = Ins.mk 22 0 0 0 1 2 [] := by have h2 : lastI f13 0 = some (Ins.mk 22 0 0 0 1 2 []) := by decide
                                            rw [h2] at hx; exact (Option.some.inj hx).symm
    subst this; decide
  · have : x = Ins.mk 21 0 0 0 2 0 [] := by have h2 : lastI f13 1 = some (Ins.mk 21 0 0 0 2 0 []) := by decide
                                            rw [h2] at hx; exact (Option.some.inj hx).symm
    subst this; decide
  · have : x = Ins.mk 23 0 0 0 0 0 [] := by have h2 : lastI f13 2 = some (Ins.mk 23 0 0 0 0 0 []) := by decide
                                            rw [h2] at hx; exact (Option.some.inj hx).symm
    subst this; decide
theorem spl_ok {f : Func} (h : okF1 f) (W : Wf f) : okF1 (splF f) := by
  have h80 := crit_len h W
  have h40 := W.n40
  refine ⟨h.1, h.2.1, by rw [spl_len]; omega, fun c hc => ?_⟩
  obtain ⟨j, hj, rfl⟩ := List.mem_iff_getElem.1 hc
  rcases spl_inv (List.getElem?_eq_getElem hj) with ⟨b, hb, he⟩ | ⟨k, e, _, _, he⟩
  · rw [he, blkR_len]; have := (W.len b (List.mem_of_getElem? hb)).2; omega
  · rw [he]; unfold jmpB; simp
theorem spl_okT {f : Func} (h : okF1 f) (W : Wf f) : okT (splF f) := by
  have h80 := crit_len h W
  have h40 := W.n40
  refine ⟨by rw [spl_len]; omega, fun e he => ?_⟩
  obtain ⟨i, x, hx, _, ht⟩ := edg_mem2.1 he
  have := spl_next W hx _ ht
  omega
theorem crit_spl {f : Func} (h : okF1 f) (W : Wf f) : edge_Critical (splF f) = some [] := by
  rw [crit_f (spl_ok h W) (spl_okT h W), crit_none W]
theorem alive13 : portolanlaw13_alive = some true := by
  have hc : critF f13 = [Edge.mk 0 2] := by decide +kernel
  have hs : splF f13 = Func.mk [0] [(-1)] 0 0 [Block.mk [Ins.mk 22 0 0 0 1 3 []], Block.mk [Ins.mk 21 0 0 0 2 0 []], Block.mk [Ins.mk 23 0 0 0 0 0 []], Block.mk [Ins.mk 21 0 0 0 2 0 []]] := by decide +kernel
  have h1 := crit_f f13_ok (okT_of f13_wf)
  have h2 := split_f f13_ok f13_wf
  have h3 := crit_spl f13_ok f13_wf
  rw [hc] at h1 h2
  rw [hs] at h2 h3
  unfold f13 at h1 h2
  unfold portolanlaw13_alive
  rw [h1, Option.bind_some, h2]
  simp [h3, ixL]

def goodF (f : Func) : Bool := decide (f.Blocks.length + (critF f).length ≤ 40)
theorem whole_f {p : Prog} (hn : p.Funcs.length ≤ 8) (h : ∀ f ∈ p.Funcs, okF1 f ∧ Wf f) : edge_Whole p = some (if p.Funcs.all goodF then (splP p, 0) else (Prog.mk [], 9)) := by
  unfold edge_Whole
  obtain ⟨o, ho, hq⟩ := forN_rule (body := edge_Whole.b1 p) (s := []) (n := p.Funcs.length) (fun k s => s = (p.Funcs.take k).map splF ∧ ∀ f ∈ p.Funcs.take k, goodF f = true)
    (fun o => o = if p.Funcs.all goodF then .next (p.Funcs.map splF) else .ret (Prog.mk [], 9)) (by omega) ⟨by simp, by simp⟩ (fun k s hk hI => by
      obtain ⟨rfl, hg⟩ := hI
      obtain ⟨h1, h2⟩ := h _ (List.getElem_mem hk)
      simp only [edge_Whole.b1, ixL_lt hk, Option.bind_some, split_f h1 h2]
      cases hgk : goodF p.Funcs[k] with
      | true =>
        have hgk' := of_decide_eq_true hgk
        rw [if_pos hgk']
        simp only [bne_self_eq_false, Bool.false_eq_true, ↓reduceIte]
        rw [appL_ok (by simp; omega), Option.bind_some]
        refine ⟨_, rfl, ?_, ?_⟩
        · rw [List.take_add_one, List.getElem?_eq_getElem hk, List.map_append]; rfl
        · intro f hf
          rw [List.take_add_one, List.getElem?_eq_getElem hk, List.mem_append] at hf
          rcases hf with hf | hf
          · exact hg f hf
          · simp at hf; rw [hf]; exact hgk
      | false =>
        have hgk' : ¬ _ := of_decide_eq_false hgk
        rw [if_neg hgk']
        have hall : p.Funcs.all goodF = false := by
          rw [← Bool.not_eq_true, List.all_eq_true]
          intro hh; rw [hh _ (List.getElem_mem hk)] at hgk; cases hgk
        refine ⟨_, rfl, ?_⟩
        rw [hall]; rfl) (fun s hI => by
      obtain ⟨rfl, hg⟩ := hI
      rw [List.take_length] at hg ⊢
      rw [if_pos (List.all_eq_true.2 hg)])
  subst hq
  cases hall : p.Funcs.all goodF with
  | true => rw [hall] at ho; rw [aft_next ho]; rfl
  | false => rw [hall] at ho; rw [aft_ret ho]; rfl

theorem through_old {f : Func} {n v : Int} (h : v < n) : portolanlaw13_through f v n = some v := by
  unfold portolanlaw13_through
  have : ¬ n ≤ v := by omega
  simp [this, portolanlaw13_through.j1]
theorem through_new {f : Func} {j : Nat} {e : Edge} (h : (critF f)[j]? = some e) : portolanlaw13_through (splF f) ((f.Blocks.length + j : Nat) : Int) (f.Blocks.length : Int) = some e.To := by
  have hj := (List.getElem?_eq_some_iff.1 h).1
  unfold portolanlaw13_through
  have e1 : (f.Blocks.length : Int) ≤ ((f.Blocks.length + j : Nat) : Int) := by omega
  have e2 : ((f.Blocks.length + j : Nat) : Int) < (((splF f).Blocks.length : Nat) : Int) := by rw [spl_len]; omega
  simp only [e1, e2, decide_true, ↓reduceIte, portolanlaw13_through.j1]
  rw [ixL_of (spl_new h), Option.bind_some]
  rfl
theorem through_sg {f : Func} (W : Wf f) {i : Nat} {x : Ins} (hx : lastI f i = some x) {u : Int} (hu : u ∈ nextS x) : portolanlaw13_through (splF f) (sg f i u) (f.Blocks.length : Int) = some u := by
  have := W.nx i x hx u hu
  rcases sg_or f i u with ⟨h1, _⟩ | ⟨j, h1, h2⟩
  · rw [h1]; exact through_old (by omega)
  · rw [h2, through_new h1]

theorem okPr_spl {p : Prog} (hp : okPr p) (hW : ∀ f ∈ p.Funcs, Wf f) : okPr (splP p) := by
  refine ⟨by have := hp.1; unfold okF0 at this ⊢; simpa [splP] using this, fun g hg => ?_⟩
  unfold splP at hg
  obtain ⟨f, hf, rfl⟩ := List.mem_map.1 hg
  have h1 := hp.2 f hf
  have W := hW f hf
  refine ⟨spl_ok h1.1 W, fun c hc y hy => ?_⟩
  obtain ⟨j, hj, rfl⟩ := List.mem_iff_getElem.1 hc
  rcases spl_inv (List.getElem?_eq_getElem hj) with ⟨b, hb, he⟩ | ⟨k, e, _, _, he⟩
  · rw [he] at hy
    have hbm := List.mem_of_getElem? hb
    rcases blkR_mem hy with hy | ⟨x, _, hx, rfl⟩
    · exact h1.2 b hbm y hy
    · have := h1.2 b hbm x hx
      unfold okI0 at this ⊢
      unfold renX
      split <;> exact this
  · rw [he] at hy
    unfold jmpB at hy
    simp only [List.mem_singleton] at hy
    subst hy
    unfold okI0; simp

theorem EdgeNone_plain {p : Prog} (hp : okPr p) : portolanlaw13_EdgeNone p = some true := by
  unfold portolanlaw13_EdgeNone portolanlaw13_out
  rw [alive13, Option.bind_some]
  simp only [↓reduceIte]
  obtain ⟨b, hb⟩ := great_t hp
  rw [hb]
  simp only [Option.bind_some]
  cases b
  rotate_left
  · rfl
  simp only [Bool.false_eq_true, ↓reduceIte, check_r hp, Option.bind_some]
  cases hc : checkS p
  · rfl
  simp only [↓reduceIte, show ((0 : Int) != 0) = false by decide, Bool.false_eq_true]
  obtain ⟨hcp, hh⟩ := check_parts hc
  have hn8 : p.Funcs.length ≤ 8 := by
    unfold headS at hh
    rw [Bool.and_eq_true, wI_iff] at hh
    omega
  have hWi : ∀ (i : Nat) (hi : i < p.Funcs.length), Wf p.Funcs[i] := fun i hi => wf_of hi (hcp i hi).1 (hcp i hi).2
  have hW : ∀ f ∈ p.Funcs, Wf f := fun f hf => by
    obtain ⟨i, hi, rfl⟩ := List.mem_iff_getElem.1 hf
    exact hWi i hi
  rw [whole_f hn8 (fun f hf => ⟨(hp.2 f hf).1, hW f hf⟩), Option.bind_some]
  cases hall : p.Funcs.all goodF with
  | false => rfl
  | true =>
    have hgood : ∀ (i : Nat) (hi : i < p.Funcs.length), p.Funcs[i].Blocks.length + (critF p.Funcs[i]).length ≤ 40 := fun i hi => of_decide_eq_true (List.all_eq_true.1 hall _ (List.getElem_mem hi))
    simp only [↓reduceIte, show ((0 : Int) != 0) = false by decide, Bool.false_eq_true]
    have hlen : (splP p).Funcs.length = p.Funcs.length := by simp [splP]
    have hck : checkS (splP p) = true := by
      unfold checkS
      rw [Bool.and_eq_true, List.all_eq_true]
      constructor
      · unfold headS at hh ⊢
        rw [hlen]
        rw [Bool.and_eq_true] at hh ⊢
        refine ⟨hh.1, ?_⟩
        have h2 := hh.2
        unfold splP
        rw [List.getElem?_map]
        cases h0 : p.Funcs[0]? with
        | none => rw [h0] at h2; cases h2
        | some f => rw [h0] at h2; exact h2
      · intro i hi
        have hi : i < p.Funcs.length := by simpa [hlen] using hi
        unfold okAt
        have : (splP p).Funcs[i]? = some (splF p.Funcs[i]) := by unfold splP; rw [List.getElem?_map, List.getElem?_eq_getElem hi]; rfl
        rw [this]
        simp only [Bool.and_eq_true]
        exact ⟨func_spl (hcp i hi).1 (hgood i hi), ins_spl hi (hWi i hi) (hcp i hi).2⟩
    rw [check_s (okPr_spl hp hW), Option.bind_some, if_pos hck]
    simp only [show ((0 : Int) != 0) = false by decide, Bool.false_eq_true, ↓reduceIte]
    rw [aft_next (forN_ok (by omega) (fun i hi => by
      rw [hlen] at hi
      have W := hWi i hi
      have hF := (hp.2 _ (List.getElem_mem hi)).1
      have hsp : (splP p).Funcs[i]? = some (splF p.Funcs[i]) := by unfold splP; rw [List.getElem?_map, List.getElem?_eq_getElem hi]; rfl
      simp only [portolanlaw13_EdgeNone.b1, ixL_lt hi, Option.bind_some]
      rw [ixL_of hsp, Option.bind_some, crit_spl hF W, Option.bind_some]
      have e1 : ¬ (((splF p.Funcs[i]).Blocks.length : Int) < (p.Funcs[i].Blocks.length : Int)) := by rw [spl_len]; omega
      simp only [List.length_nil, show (((0 : Nat) : Int) != 0) = false by decide, Bool.false_eq_true, ↓reduceIte, e1, decide_false]
      unfold portolanlaw13_EdgeNone.j1
      simp only [Bool.false_eq_true, ↓reduceIte]
      have h40 := W.n40
      rw [aft_next (forN_ok (by omega) (fun j hj => by
        have hb := List.getElem?_eq_getElem hj
        have hbm := List.getElem_mem hj
        revert hb hbm
        generalize p.Funcs[i].Blocks[j] = b
        intro hb hbm
        obtain ⟨hl1, hl2⟩ := W.len b hbm
        have hbs := (func_parts (hcp i hi).1).2.2 b hbm
        cases hl : b.Code.getLast? with
        | none => rw [List.getLast?_eq_none_iff] at hl; rw [hl] at hl1; simp at hl1
        | some x =>
          have hx : lastI p.Funcs[i] j = some x := by unfold lastI; rw [hb]; exact hl
          have hxm := List.mem_of_getLast? hl
          have hls : lastS x.Op = true := by
            rw [List.getLast?_eq_getElem?] at hl
            rw [(blockS_iff.1 hbs).2 _ _ hl]
            unfold nQ; simp; omega
          simp only [portolanlaw13_EdgeNone.b2]
          rw [ixL_of hb, Option.bind_some, last_ix (by omega) (by omega), hl, Option.bind_some, ixL_of (spl_old hb), Option.bind_some, last_ix (by rw [blkR_len]; omega) (by rw [blkR_len]; omega), blkR_get hl, Option.bind_some]
          by_cases h22 : x.Op = 22
          · rw [(renX_22 h22).1, (renX_22 h22).2, through_sg W hx (mem_next.2 (.inr ⟨h22, .inl rfl⟩)), Option.bind_some]
            simp only [bne_self_eq_false, Bool.false_eq_true, ↓reduceIte, h22, beq_self_eq_true]
            rw [through_sg W hx (mem_next.2 (.inr ⟨h22, .inr rfl⟩)), Option.bind_some]
            simp
          · rw [renX_no h22]
            have hlt : x.N < p.Funcs[i].Blocks.length := by
              by_cases h21 : x.Op = 21
              · exact (W.nx j x hx _ (mem_next.2 (.inl ⟨h21, rfl⟩))).2
              · have h23 : x.Op = 23 := by unfold lastS at hls; rw [wI_iff] at hls; omega
                have hin := List.all_eq_true.1 (List.all_eq_true.1 (hcp i hi).2 b hbm) x hxm
                unfold insS at hin
                simp only [Bool.and_eq_true] at hin
                have hbare := hin.2.2.1
                unfold bareS at hbare
                rw [h23] at hbare
                have e1 : hasS 23 78 = false := by decide +kernel
                have e2 : hasS 23 110 = false := by decide +kernel
                simp only [e1, e2, Bool.and_eq_true, Bool.or_false, beq_iff_eq] at hbare
                have := W.n1
                omega
            rw [through_old hlt, Option.bind_some]
            have e2 : (x.Op == 22) = false := by simpa using h22
            simp [e2]))]
      rfl))]
    rfl
end Go.Pf
end
