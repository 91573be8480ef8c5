/- The plain law, part 1 -/
import Derived.Test.YtcbbchfhfacbdaaDoorU1
set_option linter.all false
section
/- Plain lemmas on the plain words: loops over lists, rows, whole numbers of 64 bits. -/
namespace Go.Pp
variable {α S R T : Type}

theorem forF_rule {body : Nat → S → Option (LR S R)} (I : Nat → S → Prop) (Q : LR S R → Prop) :
    ∀ (k i : Nat) (s : S), I i s →
    (∀ j s, i ≤ j → j < i + k → I j s → ∃ o, body j s = some o ∧ (match o with | .next s' => I (j+1) s' | .brk s' => Q (.brk s') | .ret r => Q (.ret r))) →
    (∀ s, I (i+k) s → Q (.next s)) → ∃ o, forF body k i s = some o ∧ Q o
  | 0, i, s, hI, _, he => ⟨.next s, rfl, he s hI⟩
  | k+1, i, s, hI, hs, he => by
    obtain ⟨o, ho, hm⟩ := hs i s (Nat.le_refl _) (by omega) hI
    unfold forF; rw [ho]
    cases o with
    | next s' => exact forF_rule I Q k (i+1) s' hm (fun j s h1 h2 => hs j s (by omega) (by omega)) (fun s h => he s (by rw [show i + (k+1) = i+1+k by omega]; exact h))
    | brk s' => exact ⟨_, rfl, hm⟩
    | ret r => exact ⟨_, rfl, hm⟩
theorem forN_rule {body : Nat → S → Option (LR S R)} (I : Nat → S → Prop) (Q : LR S R → Prop) {n : Nat} {s : S} (hn : n ≤ 4611686018427387904) (h0 : I 0 s)
    (hs : ∀ j s, j < n → I j s → ∃ o, body j s = some o ∧ (match o with | .next s' => I (j+1) s' | .brk s' => Q (.brk s') | .ret r => Q (.ret r)))
    (he : ∀ s, I n s → Q (.next s)) : ∃ o, forN (n : Int) body s = some o ∧ Q o := by
  unfold forN
  rw [if_pos (by omega), Int.toNat_natCast]
  exact forF_rule I Q n 0 s h0 (fun j s _ h => hs j s (by omega)) (by simpa using he)
theorem forN_zero {body : Nat → S → Option (LR S R)} {E : Int} (s : S) (h : E ≤ 0) : forN E body s = some (.next s) := by
  unfold forN; rw [if_pos (by omega), show E.toNat = 0 by omega]; rfl
theorem whileF_rule {body : S → Option (LR S R)} (I : S → Prop) (μ : S → Nat) (Q : LR S R → Prop)
    (hs : ∀ s, I s → ∃ o, body s = some o ∧ (match o with | .next s' => I s' ∧ μ s' < μ s | .brk s' => Q (.brk s') | .ret r => Q (.ret r))) :
    ∀ (k : Nat) (s : S), I s → μ s < k → ∃ o, whileF body k s = some o ∧ Q o
  | 0, s, _, h => by omega
  | k+1, s, hI, hk => by
    obtain ⟨o, ho, hm⟩ := hs s hI
    unfold whileF; rw [ho]
    cases o with
    | next s' => exact whileF_rule I μ Q hs k s' hm.1 (by have := hm.2; omega)
    | brk s' => exact ⟨_, rfl, hm⟩
    | ret r => exact ⟨_, rfl, hm⟩

/-- the first place that answers -/
def firstI (g : Nat → Option R) : Nat → Nat → Option R
  | 0, _ => none
  | k+1, i => match g i with | some r => some r | none => firstI g k (i+1)
def lrO : Option R → LR Unit R
  | none => .next ()
  | some r => .ret r
theorem forF_first {body : Nat → Unit → Option (LR Unit R)} {g : Nat → Option R} : ∀ (k i : Nat),
    (∀ j, i ≤ j → j < i + k → (∀ m, i ≤ m → m < j → g m = none) → body j () = some (lrO (g j))) → forF body k i () = some (lrO (firstI g k i))
  | 0, i, _ => rfl
  | k+1, i, h => by
    have h1 := h i (Nat.le_refl _) (by omega) (fun m _ _ => by omega)
    unfold forF firstI
    rw [h1]
    cases hg : g i with
    | some r => simp [lrO]
    | none =>
      simp only [lrO]
      exact forF_first k (i+1) (fun j h1 h2 h3 => h j (by omega) (by omega) (fun m hm1 hm2 => by
        by_cases hmi : m = i
        · subst hmi; exact hg
        · exact h3 m (by omega) hm2))
theorem firstI_none {g : Nat → Option R} : ∀ {k i : Nat}, firstI g k i = none ↔ ∀ j, i ≤ j → j < i + k → g j = none
  | 0, i => by simp [firstI]; omega
  | k+1, i => by
    unfold firstI
    cases hg : g i with
    | some r =>
      constructor
      · intro h; cases h
      · intro h; have := h i (by omega) (by omega); rw [hg] at this; cases this
    | none =>
      simp only [firstI_none (k := k)]
      constructor
      · intro h j h1 h2
        by_cases hj : j = i
        · subst hj; exact hg
        · exact h j (by omega) (by omega)
      · intro h j h1 h2; exact h j (by omega) (by omega)
/-- a loop that only looks, and may answer no -/
theorem forN_allI {body : Nat → Unit → Option (LR Unit R)} {p : Nat → Bool} {r : R} {n : Nat} (hn : n ≤ 4611686018427387904)
    (h : ∀ j, j < n → (∀ m, m < j → p m = true) → body j () = some (if p j then .next () else .ret r)) :
    forN (n : Int) body () = some (if (List.range n).all p then .next () else .ret r) := by
  obtain ⟨o, ho, hq⟩ := forN_rule (body := body) (s := ()) (n := n) (fun j _ => ∀ m, m < j → p m = true) (fun o => o = (if (List.range n).all p then .next () else .ret r)) hn (fun _ h => by omega)
    (fun j s hj hI => by
      refine ⟨_, h j hj hI, ?_⟩
      cases hp : p j
      · simp only [Bool.false_eq_true, ↓reduceIte]
        rw [if_neg]
        intro ha
        have := List.all_eq_true.1 ha j (by simpa using hj)
        rw [hp] at this; cases this
      · simp only [↓reduceIte]
        intro m hm
        by_cases hmj : m = j
        · subst hmj; exact hp
        · exact hI m (by omega))
    (fun s hI => by
      rw [if_pos]
      exact List.all_eq_true.2 fun x hx => hI x (by simpa using hx))
  rw [ho, hq]
theorem all_range {l : List α} {p : α → Bool} {q : Nat → Bool} (h : ∀ i x, l[i]? = some x → q i = p x) : (List.range l.length).all q = l.all p := by
  rw [Bool.eq_iff_iff, List.all_eq_true, List.all_eq_true]
  constructor
  · intro H x hx
    obtain ⟨i, hi, rfl⟩ := List.mem_iff_getElem.1 hx
    rw [← h i _ (List.getElem?_eq_getElem hi)]
    exact H i (by simpa using hi)
  · intro H i hi
    have hi' : i < l.length := by simpa using hi
    rw [h i _ (List.getElem?_eq_getElem hi')]
    exact H _ (List.getElem_mem hi')
theorem ixL_of {l : List α} {i : Nat} {x : α} (h : l[i]? = some x) : ixL l (i : Int) = some x := by
  unfold ixL; rw [if_pos (by omega), Int.toNat_natCast]; exact h
theorem ixL_lt {l : List α} {i : Nat} (h : i < l.length) : ixL l (i : Int) = some l[i] := ixL_of (List.getElem?_eq_getElem h)
theorem ixL_int {l : List α} {i : Int} (h0 : 0 ≤ i) (h : i < l.length) : ixL l i = some (l[i.toNat]'(by omega)) := by
  unfold ixL; rw [if_pos h0]; exact List.getElem?_eq_getElem (by omega)
theorem forN_all {l : List α} {body : Nat → Unit → Option (LR Unit R)} {p : α → Bool} {r : R} (hn : l.length ≤ 4611686018427387904)
    (h : ∀ i x, l[i]? = some x → body i () = some (if p x then .next () else .ret r)) :
    forN (l.length : Int) body () = some (if l.all p then .next () else .ret r) := by
  rw [← all_range (q := fun i => match l[i]? with | some x => p x | none => true) (fun i x hx => by simp [hx])]
  refine forN_allI hn fun j hj _ => ?_
  rw [h j _ (List.getElem?_eq_getElem hj)]
  simp [List.getElem?_eq_getElem hj]
theorem forN_any {l : List α} {body : Nat → Unit → Option (LR Unit R)} {p : α → Bool} {r : R} (hn : l.length ≤ 4611686018427387904)
    (h : ∀ i x, l[i]? = some x → body i () = some (if p x then .ret r else .next ())) :
    forN (l.length : Int) body () = some (if l.any p then .ret r else .next ()) := by
  rw [forN_all (p := fun x => !p x) (r := r) hn (fun i x hx => by rw [h i x hx]; cases p x <;> rfl)]
  rw [← List.not_any_eq_all_not]
  cases l.any p <;> rfl
/-- a loop that goes on to the end -/
theorem forN_fold {l : List α} {body : Nat → S → Option (LR S R)} {f : S → α → S} (P : Nat → S → Prop) {s : S} (hn : l.length ≤ 4611686018427387904) (h0 : P 0 s)
    (h : ∀ i x s, l[i]? = some x → P i s → body i s = some (.next (f s x)) ∧ P (i+1) (f s x)) :
    forN (l.length : Int) body s = some (.next (l.foldl f s)) ∧ P l.length (l.foldl f s) := by
  obtain ⟨o, ho, hq⟩ := forN_rule (body := body) (s := s) (n := l.length) (fun j s' => s' = (l.take j).foldl f s ∧ P j s') (fun o => o = .next (l.foldl f s) ∧ P l.length (l.foldl f s)) hn ⟨by simp, h0⟩
    (fun j s' hj hI => by
      have hx := List.getElem?_eq_getElem hj
      obtain ⟨h1, h2⟩ := h j _ s' hx hI.2
      refine ⟨_, h1, ?_, h2⟩
      rw [List.take_add_one, hx, List.foldl_append, ← hI.1]; rfl)
    (fun s' hI => by rw [List.take_length] at hI; exact ⟨by rw [hI.1], by rw [← hI.1]; exact hI.2⟩)
  exact ⟨by rw [ho, hq.1], hq.2⟩
/-- a loop that appends -/
theorem forN_app {l : List α} {β : Type} {body : Nat → List β → Option (LR (List β) R)} {g : α → List β} {s : List β} (K M : Nat) (hn : l.length ≤ 4611686018427387904)
    (hM : s.length + l.length * K ≤ M) (hg : ∀ x ∈ l, (g x).length ≤ K)
    (h : ∀ i x (s' : List β), l[i]? = some x → s'.length + K ≤ M → body i s' = some (.next (s' ++ g x))) :
    forN (l.length : Int) body s = some (.next (s ++ l.flatMap g)) ∧ (s ++ l.flatMap g).length ≤ s.length + l.length * K := by
  have := forN_fold (body := body) (f := fun s x => s ++ g x) (s := s) (fun i s' => s'.length ≤ s.length + i * K ∧ i ≤ l.length) hn ⟨by omega, by omega⟩ (fun i x s' hx hP => by
    have hi := (List.getElem?_eq_some_iff.1 hx).1
    have hm : i * K + K ≤ l.length * K := by have := Nat.mul_le_mul_right K (show i + 1 ≤ l.length from hi); rw [Nat.add_mul] at this; omega
    have hgx := hg x (List.mem_of_getElem? hx)
    refine ⟨h i x s' hx (by omega), ?_, by omega⟩
    rw [List.length_append, Nat.add_mul]; omega)
  have he : l.foldl (fun s x => s ++ g x) s = s ++ l.flatMap g := by
    clear this hM h hn hg
    induction l generalizing s with
    | nil => simp
    | cons a l ih => simp [ih]
  rw [he] at this
  exact ⟨this.1, this.2.1⟩
theorem appL_ok {b : Nat} {l r : List α} (h : (l.length + r.length) * b ≤ 140737488355328) : appL b l r = some (l ++ r) := by unfold appL; rw [if_pos h]
theorem tailL_ok {l : List α} {lo : Int} (h0 : 0 ≤ lo) (h : lo ≤ l.length) : tailL l lo = some (l.drop lo.toNat) := by unfold tailL; rw [if_pos ⟨h0, h⟩]
theorem headL_ok {l : List α} {lo : Int} (h0 : 0 ≤ lo) (h : lo ≤ l.length) : headL l lo = some (l.take lo.toNat) := by unfold headL; rw [if_pos ⟨h0, h⟩]
theorem cutL_ok {l : List α} {lo hi : Int} (h0 : 0 ≤ lo) (h1 : lo ≤ hi) (h2 : hi ≤ l.length) : cutL l lo hi = some ((l.drop lo.toNat).take (hi.toNat - lo.toNat)) := by unfold cutL; rw [if_pos ⟨h0, h1, h2⟩]
theorem w64_id {n : Int} (h1 : -9223372036854775808 ≤ n) (h2 : n ≤ 9223372036854775807) : w64 n = n := by unfold w64; simp only []; split <;> omega
theorem u64_id {n : Int} (h1 : 0 ≤ n) (h2 : n ≤ 18446744073709551615) : u64 n = n := by unfold u64; omega
theorem u8_id {n : Int} (h1 : 0 ≤ n) (h2 : n ≤ 255) : u8 n = n := by unfold u8; omega
theorem iteS {c : Prop} [Decidable c] {a b : α} : (if c then some a else some b) = some (if c then a else b) := by by_cases h : c <;> simp [h]
theorem aft_next {o : Option (LR S R)} {k : S → Option T} {r : R → Option T} {s : S} (h : o = some (.next s)) : aft o k r = k s := by rw [h]; rfl
theorem aft_brk {o : Option (LR S R)} {k : S → Option T} {r : R → Option T} {s : S} (h : o = some (.brk s)) : aft o k r = k s := by rw [h]; rfl
theorem aft_ret {o : Option (LR S R)} {k : S → Option T} {r : R → Option T} {s : R} (h : o = some (.ret s)) : aft o k r = r s := by rw [h]; rfl
theorem aft_if {c : Prop} [Decidable c] {o : Option (LR S R)} {k : S → Option T} {r : R → Option T} {s : S} {x : R} (h : o = some (if c then .next s else .ret x)) : aft o k r = if c then k s else r x := by
  rw [h]; by_cases hc : c <;> simp [hc, aft]
theorem aft_if2 {c : Prop} [Decidable c] {o : Option (LR S R)} {k : S → Option T} {r : R → Option T} {s : S} {x : R} (h : o = some (if c then .ret x else .next s)) : aft o k r = if c then r x else k s := by
  rw [h]; by_cases hc : c <;> simp [hc, aft]
/-- two rows, entry by entry -/
theorem forN_same {l m : List α} [DecidableEq α] {body : Nat → Unit → Option (LR Unit R)} {r : R} (hn : l.length ≤ 4611686018427387904) (hl : l.length = m.length)
    (h : ∀ i x y, l[i]? = some x → m[i]? = some y → body i () = some (if x = y then .next () else .ret r)) :
    forN (l.length : Int) body () = some (if l = m then .next () else .ret r) := by
  rw [forN_allI (p := fun i => decide (l[i]? = m[i]?)) (r := r) hn (fun j hj _ => by
    have hj2 : j < m.length := by omega
    rw [h j _ _ (List.getElem?_eq_getElem hj) (List.getElem?_eq_getElem hj2)]
    simp [List.getElem?_eq_getElem hj, List.getElem?_eq_getElem hj2])]
  congr 1
  have : ((List.range l.length).all fun i => decide (l[i]? = m[i]?)) = decide (l = m) := by
    rw [Bool.eq_iff_iff, List.all_eq_true, decide_eq_true_iff]
    constructor
    · intro H
      refine List.ext_getElem? fun i => ?_
      by_cases hi : i < l.length
      · simpa using H i (by simpa using hi)
      · rw [List.getElem?_eq_none (by omega), List.getElem?_eq_none (by omega)]
    · rintro rfl; simp
  rw [this]
  simp
end Go.Pp
end
section
/- Shapes: letters, bare, numbers, what an instruction reads and sets, where it goes: the same by the program and by the document. -/
namespace Go.Pf
open Go.Pp

/-- an operation's letters -/
def PS (op : Int) : ByteArray := (code_Parts op).getD ({ data := #[] } : ByteArray)
def hasS (op c : Int) : Bool := (sbytes (PS op)).contains c
theorem parts_fin : ∀ n : Fin 24, (code_Parts (n.val : Int)).isSome = true ∧ portolanref03_Parts (n.val : Int) = code_Parts (n.val : Int) := by decide +kernel
theorem parts_out {op : Int} (h : ¬ (0 ≤ op ∧ op < 24)) : code_Parts op = some ({ data := #[] } : ByteArray) ∧ portolanref03_Parts op = some ({ data := #[] } : ByteArray) := by
  constructor
  · unfold code_Parts
    by_cases h0 : op < 0
    · simp [h0]
    · have : 24 ≤ op := by omega
      simp [h0, this]
  · have e : ∀ k : Int, 0 ≤ k → k < 24 → (op == k) = false := fun k h1 h2 => by simp; omega
    simp [portolanref03_Parts, portolanref03_Parts.j1, portolanref03_Parts.j2, portolanref03_Parts.j3, portolanref03_Parts.j4, portolanref03_Parts.j5, e]
theorem fin_of {op : Int} (h : 0 ≤ op ∧ op < 24) : ∃ n : Fin 24, op = (n.val : Int) := ⟨⟨op.toNat, by omega⟩, by simp; omega⟩
theorem parts_c (op : Int) : code_Parts op = some (PS op) := by
  by_cases h : 0 ≤ op ∧ op < 24
  · obtain ⟨n, rfl⟩ := fin_of h
    have := (parts_fin n).1
    unfold PS
    cases hx : code_Parts (n.val : Int) with
    | none => rw [hx] at this; cases this
    | some x => rfl
  · unfold PS; rw [(parts_out h).1]; rfl
theorem parts_r (op : Int) : portolanref03_Parts op = some (PS op) := by
  by_cases h : 0 ≤ op ∧ op < 24
  · obtain ⟨n, rfl⟩ := fin_of h
    rw [(parts_fin n).2, parts_c]
  · unfold PS; rw [(parts_out h).1, (parts_out h).2]; rfl
theorem PS_out {op : Int} (h : ¬ (0 ≤ op ∧ op < 24)) : PS op = ({ data := #[] } : ByteArray) := by unfold PS; rw [(parts_out h).1]; rfl
def letters : List Int := [68, 65, 66, 78, 77, 110, 76]
theorem has_fin : ∀ n : Fin 24, ∀ c ∈ letters, portolanref04_has (n.val : Int) c = some (hasS (n.val : Int) c) ∧ shape_has (n.val : Int) c = some (hasS (n.val : Int) c) ∧ code_letters (n.val : Int) c = some (hasS (n.val : Int) c) := by decide +kernel
theorem any_fin : ∀ n : Fin 24, ∀ c ∈ letters, shape_hasAny (PS (n.val : Int)) ({ data := #[c.toNat.toUInt8] } : ByteArray) = some (hasS (n.val : Int) c) := by decide +kernel
theorem any2_fin : ∀ n : Fin 24, shape_hasAny (PS (n.val : Int)) ({ data := #[78, 110] } : ByteArray) = some (hasS (n.val : Int) 78 || hasS (n.val : Int) 110) := by decide +kernel
theorem has_e : ∀ c ∈ letters, aft (forN (ByteArray.size ({ data := #[] } : ByteArray) : Int) (portolanref04_has.b1 c ({ data := #[] } : ByteArray)) ()) (fun _ => portolanref04_has.k1) (fun r => some r) = some false ∧ (strings_IndexByte ({ data := #[] } : ByteArray) c).bind (fun x2 => some (decide (0 ≤ x2))) = some false ∧ (sbytes ({ data := #[] } : ByteArray)).contains c = false ∧ shape_hasAny ({ data := #[] } : ByteArray) ({ data := #[c.toNat.toUInt8] } : ByteArray) = some false ∧ shape_hasAny ({ data := #[] } : ByteArray) ({ data := #[78, 110] } : ByteArray) = some false := by decide +kernel
theorem has_all (op : Int) {c : Int} (hc : c ∈ letters) : portolanref04_has op c = some (hasS op c) ∧ shape_has op c = some (hasS op c) ∧ code_letters op c = some (hasS op c) ∧ shape_hasAny (PS op) ({ data := #[c.toNat.toUInt8] } : ByteArray) = some (hasS op c) ∧ shape_hasAny (PS op) ({ data := #[78, 110] } : ByteArray) = some (hasS op 78 || hasS op 110) := by
  by_cases h : 0 ≤ op ∧ op < 24
  · obtain ⟨n, rfl⟩ := fin_of h
    obtain ⟨h1, h2, h3⟩ := has_fin n c hc
    exact ⟨h1, h2, h3, any_fin n c hc, any2_fin n⟩
  · obtain ⟨h1, h2, h3, h4, h5⟩ := has_e c hc
    have hS : ∀ c ∈ letters, hasS op c = false := fun c hc => by unfold hasS; rw [PS_out h]; exact (has_e c hc).2.2.1
    rw [hS c hc, hS 78 (by decide), hS 110 (by decide)]
    refine ⟨?_, ?_, ?_, ?_, ?_⟩
    · unfold portolanref04_has; rw [(parts_out h).2, Option.bind_some]; exact h1
    · unfold shape_has; rw [(parts_out h).1, Option.bind_some]; exact h2
    · unfold code_letters; rw [(parts_out h).1, Option.bind_some]; exact h2
    · rw [PS_out h]; exact h4
    · rw [PS_out h]; exact h5
theorem has_r (op : Int) {c : Int} (hc : c ∈ letters := by decide) : portolanref04_has op c = some (hasS op c) := (has_all op hc).1
theorem has_s (op : Int) {c : Int} (hc : c ∈ letters := by decide) : shape_has op c = some (hasS op c) := (has_all op hc).2.1
theorem has_c (op : Int) {c : Int} (hc : c ∈ letters := by decide) : code_letters op c = some (hasS op c) := (has_all op hc).2.2.1

def wI (x lo hi : Int) : Bool := decide (lo ≤ x ∧ x ≤ hi)
theorem within_s (a b c : Int) : shape_within a b c = some (wI a b c) := by
  unfold shape_within wI; by_cases h : b ≤ a <;> simp [h]
theorem within_r (a b c : Int) : portolanref04_within a b c = some (wI a b c) := by
  unfold portolanref04_within wI; by_cases h : b ≤ a <;> simp [h]

def bareS (x : Ins) : Bool :=
  ((x.D == 0) || hasS x.Op 68) && ((x.A == 0) || hasS x.Op 65) && ((x.B == 0) || hasS x.Op 66) && ((x.N == 0) || (hasS x.Op 78 || hasS x.Op 110)) && ((x.M == 0) || hasS x.Op 77) && (((x.Args.length : Int) == 0) || hasS x.Op 76)
theorem bare1 {x : Ins} {v : Int} {s : ByteArray} {b : Bool} (h : shape_hasAny (PS x.Op) s = some b) : shape_bare_1 v s x = some (!((v == 0) || b)) := by
  unfold shape_bare_1
  rw [parts_c, Option.bind_some, h, Option.bind_some, bne]
  cases v == 0 <;> simp
theorem bare_s (x : Ins) : shape_bare x = some (bareS x) := by
  unfold shape_bare bareS
  have e (c : Int) (hc : c ∈ letters) (v : Int) : shape_bare_1 v ({ data := #[c.toNat.toUInt8] } : ByteArray) x = some (!((v == 0) || hasS x.Op c)) := bare1 (has_all x.Op hc).2.2.2.1
  rw [show shape_bare_1 x.D ({ data := #[68] } : ByteArray) x = _ from e 68 (by decide) _, show shape_bare_1 x.A ({ data := #[65] } : ByteArray) x = _ from e 65 (by decide) _, show shape_bare_1 x.B ({ data := #[66] } : ByteArray) x = _ from e 66 (by decide) _, show shape_bare_1 x.M ({ data := #[77] } : ByteArray) x = _ from e 77 (by decide) _, show shape_bare_1 (x.Args.length : Int) ({ data := #[76] } : ByteArray) x = _ from e 76 (by decide) _, bare1 (v := x.N) (has_all x.Op (c := 77) (by decide)).2.2.2.2]
  simp only [Option.bind_some]
  generalize ((x.D == 0) || hasS x.Op 68) = d1
  generalize ((x.A == 0) || hasS x.Op 65) = d2
  generalize ((x.B == 0) || hasS x.Op 66) = d3
  generalize ((x.N == 0) || (hasS x.Op 78 || hasS x.Op 110)) = d4
  generalize ((x.M == 0) || hasS x.Op 77) = d5
  generalize (((x.Args.length : Int) == 0) || hasS x.Op 76) = d6
  cases d1 <;> cases d2 <;> cases d3 <;> cases d4 <;> cases d5 <;> simp
theorem bare_r (x : Ins) : portolanref04_bare x = some (bareS x) := by
  unfold portolanref04_bare bareS
  simp only [has_r x.Op (c := 68), has_r x.Op (c := 65), has_r x.Op (c := 66), has_r x.Op (c := 78), has_r x.Op (c := 110), has_r x.Op (c := 77), has_r x.Op (c := 76), Option.bind_some]
  generalize (x.D == 0) = b1
  generalize hasS x.Op 68 = c1
  generalize (x.A == 0) = b2
  generalize hasS x.Op 65 = c2
  generalize (x.B == 0) = b3
  generalize hasS x.Op 66 = c3
  generalize (x.N == 0) = b4
  generalize hasS x.Op 78 = c4
  generalize hasS x.Op 110 = c5
  generalize (x.M == 0) = b5
  generalize hasS x.Op 77 = c6
  generalize ((x.Args.length : Int) == 0) = b6
  generalize hasS x.Op 76 = c7
  clear x
  revert b1 c1 b2 c2 b3 c3 b4 c4 c5 b5 c6 b6 c7
  decide +kernel

def nQ (n : Nat) : Int := (n : Int) - 1
theorem w64L {n : Nat} (h : n ≤ 281474976710656) : w64 ((n : Int) - 1) = nQ n := by unfold nQ; exact w64_id (by omega) (by omega)
def okF0 (p : Prog) : Prop := p.Funcs.length ≤ 281474976710656
def numS (p : Prog) (x : Ins) : Bool :=
  if x.Op == 19 then wI x.N 0 (nQ p.Funcs.length) && (match ixL p.Funcs x.N with | some f => (x.Args.length : Int) == f.Params | none => false)
  else if x.Op == 1 then wI x.N (-2147483648) 2147483648
  else if x.Op == 16 then wI x.N (-8) 8
  else if x.Op == 10 then wI x.N 0 8 && wI x.M 0 8
  else if x.Op == 11 || x.Op == 12 || x.Op == 13 || x.Op == 14 || x.Op == 15 then wI x.N 0 7
  else true
theorem ixL_in {α : Type} {l : List α} {i : Int} (h : wI i 0 (nQ l.length) = true) : ∃ x, ixL l i = some x ∧ x ∈ l := by
  unfold wI nQ at h
  have h := of_decide_eq_true h
  exact ⟨_, ixL_int h.1 (by omega), List.getElem_mem _⟩
theorem num_s {p : Prog} {x : Ins} (h : okF0 p) : shape_numbers p x = some (numS p x) := by
  unfold shape_numbers numS shape_numbers.j1
  simp only [within_s, Option.bind_some, w64L h]
  cases h1 : x.Op == 19
  · cases h2 : x.Op == 1 <;> cases h3 : x.Op == 16 <;> cases h4 : x.Op == 10 <;> cases h5 : x.Op == 11 <;> cases h6 : x.Op == 12 <;> cases h7 : x.Op == 13 <;> cases h8 : x.Op == 14 <;> simp [iteS]
    all_goals cases wI x.N 0 8 <;> simp
  · cases hw : wI x.N 0 (nQ p.Funcs.length)
    · simp
    · obtain ⟨f, hf, _⟩ := ixL_in hw
      simp [hf]
theorem num_r {p : Prog} {x : Ins} (h : okF0 p) : portolanref04_Ins.k2 p x = some (numS p x) := by
  unfold portolanref04_Ins.k2 numS portolanref04_Ins.j3
  simp only [within_r, Option.bind_some, w64L h]
  cases h1 : x.Op == 19
  · cases h2 : x.Op == 1 <;> cases h3 : x.Op == 16 <;> cases h4 : x.Op == 10 <;> cases h5 : x.Op == 11 <;> cases h6 : x.Op == 12 <;> cases h7 : x.Op == 13 <;> cases h8 : x.Op == 14 <;> simp [iteS]
    all_goals cases wI x.N 0 8 <;> simp
  · cases hw : wI x.N 0 (nQ p.Funcs.length)
    · simp
    · obtain ⟨f, hf, _⟩ := ixL_in hw
      simp [hf]

def lastS (op : Int) : Bool := wI op 21 23
theorem last_s (op : Int) : shape_Last op = some (lastS op) := by unfold shape_Last; rw [within_s]; rfl
theorem last_r (op : Int) : portolanref04_Last op = some (lastS op) := by
  unfold portolanref04_Last lastS wI
  by_cases h1 : op = 21
  · simp [h1]
  · by_cases h2 : op = 22
    · simp [h2]
    · by_cases h3 : op = 23
      · simp [h3]
      · have : ¬ (21 ≤ op ∧ op ≤ 23) := by omega
        simp [h1, h2, h3, this]
def setS (x : Ins) : Int × Bool := if hasS x.Op 68 then (x.D, true) else (0, false)
theorem sets_s (x : Ins) : shape_Sets x = some (setS x) := by unfold shape_Sets code_Sets setS; rw [has_c, Option.bind_some]; cases hasS x.Op 68 <;> simp
theorem sets_r (x : Ins) : portolanref04_Sets x = some (setS x) := by unfold portolanref04_Sets setS; rw [has_r]; cases hasS x.Op 68 <;> simp
def useS (x : Ins) : List Int := (if hasS x.Op 65 then [x.A] else []) ++ (if hasS x.Op 66 then [x.B] else []) ++ (if hasS x.Op 76 then x.Args else [])
def okI0 (x : Ins) : Prop := x.Args.length ≤ 17592186043904
theorem use_s {x : Ins} (h : okI0 x) : shape_Uses x = some (useS x) := by
  unfold okI0 at h
  unfold shape_Uses shape_Uses.j1 shape_Uses.j2 useS
  simp only [has_s x.Op (c := 65), has_s x.Op (c := 66), has_s x.Op (c := 76), Option.bind_some]
  cases hasS x.Op 65 <;> cases hasS x.Op 66 <;> cases hasS x.Op 76 <;> simp [appL] <;> omega
theorem use_r {x : Ins} (h : okI0 x) : portolanref04_Uses x = some (useS x) := by
  unfold okI0 at h
  unfold portolanref04_Uses portolanref04_Uses.j1 portolanref04_Uses.j2 useS
  simp only [has_r x.Op (c := 65), has_r x.Op (c := 66), has_r x.Op (c := 76), Option.bind_some]
  cases hasS x.Op 65 <;> cases hasS x.Op 66 <;> cases hasS x.Op 76 <;> simp [appL] <;> omega
theorem use_len {x : Ins} (h : okI0 x) : (useS x).length ≤ 17592186043906 := by
  unfold okI0 at h
  unfold useS
  cases hasS x.Op 65 <;> cases hasS x.Op 66 <;> cases hasS x.Op 76 <;> simp <;> omega
def nextS (x : Ins) : List Int := if x.Op == 21 then [x.N] else if x.Op == 22 then (if x.N = x.M then [x.N] else if x.N < x.M then [x.N, x.M] else [x.M, x.N]) else []
theorem sort2p (a b : Int) : [a, b].mergeSort (fun x y => decide (x ≤ y)) = if a ≤ b then [a, b] else [b, a] := by
  simp [List.mergeSort, List.MergeSort.Internal.splitInTwo, List.merge]
theorem compact2 (a b : Int) : Go.Lib.compactUpTo #[a, b] 2 = if a = b then [a] else [a, b] := by
  by_cases h : a = b
  · simp [Go.Lib.compactUpTo, Go.Lib.keeps, List.range_succ, h]
  · simp [Go.Lib.compactUpTo, Go.Lib.keeps, List.range_succ, h, Ne.symm h]
theorem compact1 (a : Int) : Go.Lib.compactUpTo #[a] 1 = [a] := by
  simp [Go.Lib.compactUpTo, Go.Lib.keeps, List.range_succ]
theorem compact0 : Go.Lib.compactUpTo (#[] : Array Int) 0 = [] := by
  simp [Go.Lib.compactUpTo]
theorem next_s (x : Ins) : shape_Next x = some (nextS x) := by
  unfold shape_Next nextS shape_Next.j1 slices_Sort_int slices_Compact_int
  by_cases h1 : x.Op = 22
  · simp only [h1, sort2p]
    rcases Int.lt_trichotomy x.N x.M with h | h | h
    · have : x.N ≤ x.M := by omega
      have : x.N ≠ x.M := by omega
      simp [*, Go.Lib.compact, compact2]
    · simp [*, Go.Lib.compact, compact2]
    · have : ¬ x.N ≤ x.M := by omega
      have : ¬ x.N < x.M := by omega
      have : x.N ≠ x.M := by omega
      have : x.M ≠ x.N := by omega
      simp [*, Go.Lib.compact, compact2]
  · by_cases h2 : x.Op = 21
    · simp [h2, Go.Lib.compact, compact1]
    · simp [h1, h2, Go.Lib.compact, compact0]
theorem next_r (x : Ins) : portolanref04_Next x = some (nextS x) := by
  unfold portolanref04_Next nextS
  by_cases h2 : x.Op = 21
  · simp [h2]
  · by_cases h1 : x.Op = 22
    · simp only [h1]
      rcases Int.lt_trichotomy x.N x.M with h | h | h
      · have : ¬ x.M < x.N := by omega
        have : x.N ≠ x.M := by omega
        simp [*]
      · simp [*]
      · have : ¬ x.N < x.M := by omega
        have : x.N ≠ x.M := by omega
        simp [*]
    · simp [h1, h2]
theorem next_len (x : Ins) : (nextS x).length ≤ 2 := by unfold nextS; (repeat' split) <;> simp
end Go.Pf
end
section
/- Shapes: which function may be, by the program and by the document. -/
namespace Go.Pf
open Go.Pp

theorem iteB (b : Bool) : (if b = true then some true else some false) = some b := by cases b <;> rfl
/-- the first place in a row that a test takes -/
theorem findL {α : Type} {l : List α} {body : Nat → Unit → Option (LR Unit Int)} {p : α → Bool} (hn : l.length ≤ 4611686018427387904)
    (h : ∀ (j : Nat) (hj : j < l.length), body j () = some (if p l[j] then .ret (j : Int) else .next ())) :
    ∃ o, forN (l.length : Int) body () = some o ∧ ((o = .next () ∧ ∀ m (hm : m < l.length), p l[m] = false) ∨ (∃ (i : Nat) (hi : i < l.length), o = .ret (i : Int) ∧ p l[i] = true ∧ ∀ m (hm : m < l.length), m < i → p l[m] = false)) := by
  refine forN_rule (body := body) (s := ()) (n := l.length) (fun j _ => ∀ m (hm : m < l.length), m < j → p l[m] = false) _ hn (fun _ _ h => by omega) (fun j s hj hI => ?_) (fun s hI => .inl ⟨rfl, fun m hm => hI m hm hm⟩)
  rw [show s = () from rfl, h j hj]
  cases hp : p l[j]
  · refine ⟨_, rfl, fun m hm hmj => ?_⟩
    by_cases e : m = j
    · subst e; exact hp
    · exact hI m hm (by omega)
  · exact ⟨_, rfl, .inr ⟨j, hj, rfl, hp, hI⟩⟩
theorem anyL {α : Type} {l : List α} {p : α → Bool} {o : LR Unit Int} (h : (o = .next () ∧ ∀ m (hm : m < l.length), p l[m] = false) ∨ (∃ (i : Nat) (hi : i < l.length), o = .ret (i : Int) ∧ p l[i] = true ∧ ∀ m (hm : m < l.length), m < i → p l[m] = false)) :
    (o = .next () ∧ l.any p = false) ∨ (∃ i : Nat, o = .ret (i : Int) ∧ l.any p = true) := by
  rcases h with ⟨h1, h2⟩ | ⟨i, hi, h1, h2, _⟩
  · refine .inl ⟨h1, ?_⟩
    rw [← Bool.not_eq_true, List.any_eq_true]
    rintro ⟨x, hx, hp⟩
    obtain ⟨i, hi, rfl⟩ := List.mem_iff_getElem.1 hx
    rw [h2 i hi] at hp; cases hp
  · exact .inr ⟨i, h1, List.any_eq_true.2 ⟨_, List.getElem_mem hi, h2⟩⟩
theorem contInt {l : List Int} {a : Int} (hn : l.length ≤ 4611686018427387904) : slices_Contains_int l a = some (l.any (fun x => a == x)) := by
  obtain ⟨o, ho, hq⟩ := findL (l := l) (body := slices_Index_int.b1 l a) (p := fun x => a == x) hn (fun j hj => by
    simp only [slices_Index_int.b1, ixL_lt hj, Option.bind_some]; split <;> rfl)
  unfold slices_Contains_int slices_Index_int
  rcases anyL hq with ⟨rfl, h⟩ | ⟨i, rfl, h⟩
  · rw [aft_next ho, h]; rfl
  · rw [aft_ret ho, h]; simp
theorem containsBlock {l : List Block} {f : Block → Option Bool} {p : Block → Bool} (hn : l.length ≤ 4611686018427387904) (h : ∀ x ∈ l, f x = some (p x)) : slices_ContainsFunc_Block l f = some (l.any p) := by
  obtain ⟨o, ho, hq⟩ := findL (l := l) (body := slices_IndexFunc_Block.b1 l f) (p := p) hn (fun j hj => by
    simp only [slices_IndexFunc_Block.b1, ixL_lt hj, Option.bind_some, h _ (List.getElem_mem hj)]; split <;> rfl)
  unfold slices_ContainsFunc_Block slices_IndexFunc_Block
  rcases anyL hq with ⟨rfl, h⟩ | ⟨i, rfl, h⟩
  · rw [aft_next ho, h]; rfl
  · rw [aft_ret ho, h]; simp
theorem containsInt {l : List Int} {f : Int → Option Bool} {p : Int → Bool} (hn : l.length ≤ 4611686018427387904) (h : ∀ x ∈ l, f x = some (p x)) : slices_ContainsFunc_int l f = some (l.any p) := by
  obtain ⟨o, ho, hq⟩ := findL (l := l) (body := slices_IndexFunc_int.b1 l f) (p := p) hn (fun j hj => by
    simp only [slices_IndexFunc_int.b1, ixL_lt hj, Option.bind_some, h _ (List.getElem_mem hj)]; split <;> rfl)
  unfold slices_ContainsFunc_int slices_IndexFunc_int
  rcases anyL hq with ⟨rfl, h⟩ | ⟨i, rfl, h⟩
  · rw [aft_next ho, h]; rfl
  · rw [aft_ret ho, h]; simp
theorem containsIns {l : List Ins} {f : Ins → Option Bool} {p : Ins → Bool} (hn : l.length ≤ 4611686018427387904) (h : ∀ x ∈ l, f x = some (p x)) : slices_ContainsFunc_Ins l f = some (l.any p) := by
  obtain ⟨o, ho, hq⟩ := findL (l := l) (body := slices_IndexFunc_Ins.b1 l f) (p := p) hn (fun j hj => by
    simp only [slices_IndexFunc_Ins.b1, ixL_lt hj, Option.bind_some, h _ (List.getElem_mem hj)]; split <;> rfl)
  unfold slices_ContainsFunc_Ins slices_IndexFunc_Ins
  rcases anyL hq with ⟨rfl, h⟩ | ⟨i, rfl, h⟩
  · rw [aft_next ho, h]; rfl
  · rw [aft_ret ho, h]; simp

def lastAt (b : Block) (i : Nat) : Bool := match b.Code[i]? with
  | some x => lastS x.Op == ((i : Int) == nQ b.Code.length)
  | none => false
def blockS (b : Block) : Bool := wI b.Code.length 1 40 && (List.range b.Code.length).all (lastAt b)
theorem block_s {b : Block} (h : b.Code.length ≤ 281474976710656) : shape_block b = some (blockS b) := by
  unfold shape_block blockS
  rw [within_s, Option.bind_some]
  cases hw : wI b.Code.length 1 40
  · simp
  simp only [↓reduceIte, Bool.true_and]
  have hlen : 1 ≤ b.Code.length := by unfold wI at hw; have := of_decide_eq_true hw; omega
  obtain ⟨o, ho, hq⟩ := findL (l := b.Code) (body := slices_IndexFunc_Ins.b1 b.Code shape_block_1) (p := fun x => lastS x.Op) (by omega) (fun j hj => by
    simp only [slices_IndexFunc_Ins.b1, ixL_lt hj, Option.bind_some, shape_block_1, last_s]; split <;> rfl)
  unfold slices_IndexFunc_Ins
  rw [w64L h]
  have key : ∀ c : Bool, (c = true ↔ ∀ m (hm : m < b.Code.length), lastS b.Code[m].Op = decide (m = b.Code.length - 1)) → c = (List.range b.Code.length).all (lastAt b) := by
    intro c hc
    rw [Bool.eq_iff_iff, hc, List.all_eq_true]
    constructor
    · intro H m hm
      have hm : m < b.Code.length := by simpa using hm
      unfold lastAt nQ
      rw [List.getElem?_eq_getElem hm]
      simp only [H m hm, beq_iff_eq]
      rw [Bool.eq_iff_iff]; simp; omega
    · intro H m hm
      have := H m (by simpa using hm)
      unfold lastAt nQ at this
      rw [List.getElem?_eq_getElem hm] at this
      simp only [beq_iff_eq] at this
      rw [this, Bool.eq_iff_iff]; simp; omega
  rcases hq with ⟨rfl, hq⟩ | ⟨i, hi, rfl, h1, h2⟩
  · rw [aft_next ho]
    simp only [slices_IndexFunc_Ins.k1, Option.bind_some]
    congr 1
    refine key _ ⟨fun hc => ?_, fun hc => ?_⟩
    · unfold nQ at hc; simp at hc; omega
    · have := hc (b.Code.length - 1) (by omega); rw [hq] at this; simp at this
  · rw [aft_ret ho]
    simp only [Option.bind_some]
    congr 1
    refine key _ ⟨fun hc m hm => ?_, fun hc => ?_⟩
    · unfold nQ at hc
      have hc : (i : Int) = (b.Code.length : Int) - 1 := by simpa using hc
      by_cases hmi : m = i
      · subst hmi; rw [h1, eq_comm, decide_eq_true_iff]; omega
      · rw [h2 m hm (by omega), eq_comm, decide_eq_false_iff_not]; omega
    · have := hc i hi
      rw [h1, eq_comm, decide_eq_true_iff] at this
      unfold nQ; simp; omega
theorem block_r {a : Func} {b : Block} {i : Nat} (hb : a.Blocks[i]? = some b) (h : b.Code.length ≤ 281474976710656) : portolanref04_Func.b2 a i () = some (if blockS b then .next () else .ret false) := by
  unfold portolanref04_Func.b2 blockS
  simp only [ixL_of hb, Option.bind_some, within_r]
  cases hw : wI b.Code.length 1 40
  · simp
  simp only [↓reduceIte, Bool.true_and]
  rw [aft_if (forN_allI (p := lastAt b) (r := false) (by omega) (fun j hj _ => by
    simp only [portolanref04_Func.b3, ixL_lt hj, Option.bind_some, last_r, w64L h, lastAt, List.getElem?_eq_getElem hj]; split <;> simp_all))]
  simp only [portolanref04_Func.k3, iteS]

def entB (f : Func) (k b : Int) : Bool := if k == 2 then wI b 0 (nQ f.Kinds.length) && (match ixL f.Kinds b with | some k' => k' == 1 | none => false) else (k == 0 || k == 1) && b == -1
def entS (f : Func) (i : Nat) : Bool := match f.Kinds[i]?, f.Base[i]? with
  | some k, some b => entB f k b
  | _, _ => false
def okF1 (f : Func) : Prop := f.Kinds.length ≤ 281474976710656 ∧ f.Base.length ≤ 281474976710656 ∧ f.Blocks.length ≤ 281474976710656 ∧ ∀ b ∈ f.Blocks, b.Code.length ≤ 281474976710656
def kindsS (f : Func) : Bool := decide (f.Kinds.length ≤ 48) && decide (f.Base.length = f.Kinds.length) && (List.range f.Kinds.length).all (entS f)
theorem kinds_s {f : Func} (h : okF1 f) : shape_kinds f = some (kindsS f) := by
  unfold shape_kinds kindsS shape_kinds.j1
  by_cases h48 : f.Kinds.length ≤ 48
  · have e1 : ¬ (48 < (f.Kinds.length : Int)) := by omega
    by_cases hb : f.Base.length = f.Kinds.length
    · have e2 : ((f.Base.length : Int) != (f.Kinds.length : Int)) = false := by simp [hb]
      simp only [e1, decide_false, Bool.false_eq_true, ↓reduceIte, e2, h48, hb, decide_true, Bool.true_and]
      rw [aft_if (forN_allI (p := entS f) (r := false) (by omega) (fun j hj _ => by
        have hj2 : j < f.Base.length := by omega
        simp only [shape_kinds.b1, ixL_lt hj, ixL_lt hj2, Option.bind_some, entS, List.getElem?_eq_getElem hj, List.getElem?_eq_getElem hj2, shape_kinds.j2, within_s, w64L h.1, entB]
        generalize f.Kinds[j] = k
        generalize f.Base[j] = b
        by_cases k0 : k = 0
        · by_cases b1 : b = -1 <;> simp [k0, b1]
        · by_cases k1 : k = 1
          · by_cases b1 : b = -1 <;> simp [k1, b1]
          · by_cases k2 : k = 2
            · simp only [k2]
              cases hw : wI b 0 (nQ f.Kinds.length)
              · simp
              · obtain ⟨x, hx, _⟩ := ixL_in hw
                by_cases hx1 : x = 1 <;> simp [hx, hx1]
            · simp [k0, k1, k2]))]
      simp only [shape_kinds.k1, iteB]
      simp
    · have e2 : ((f.Base.length : Int) != (f.Kinds.length : Int)) = true := by simp; omega
      simp [e1, e2, hb]
  · have e1 : (48 < (f.Kinds.length : Int)) := by omega
    simp [e1, h48]
def parS (f : Func) : Bool := (List.range f.Kinds.length).all fun i => match f.Kinds[i]? with | some k => !(decide ((i : Int) < f.Params) && k == 2) | none => true
def funcS (f : Func) : Bool := kindsS f && (wI f.Params 0 (if (f.Kinds.length : Int) < 4 then (f.Kinds.length : Int) else 4) && (parS f && (wI f.Result 0 1 && (wI f.Blocks.length 1 40 && f.Blocks.all blockS))))
theorem par_s {f : Func} (h : okF1 f) (hp : wI f.Params 0 (if (f.Kinds.length : Int) < 4 then (f.Kinds.length : Int) else 4) = true) : (headL f.Kinds f.Params).bind (fun l => slices_Contains_int l 2) = some (!parS f) := by
  unfold wI at hp
  have hp := of_decide_eq_true hp
  have hk := h.1
  have hl : f.Params ≤ f.Kinds.length := by split at hp <;> omega
  rw [headL_ok hp.1 hl, Option.bind_some, contInt (by simp; omega)]
  congr 1
  unfold parS
  rw [Bool.eq_iff_iff, List.any_eq_true]
  simp only [Bool.not_eq_true', ← Bool.not_eq_true, List.all_eq_true]
  constructor
  · rintro ⟨x, hx, h2⟩ H
    obtain ⟨i, hi, rfl⟩ := List.mem_iff_getElem.1 hx
    rw [List.length_take] at hi
    have hi2 : i < f.Kinds.length := by omega
    have := H i (by simpa using hi2)
    rw [List.getElem?_eq_getElem hi2] at this
    simp at this h2
    rcases this with h3 | h3
    · omega
    · exact h3 h2.symm
  · intro H
    by_cases hc : ∃ x, x ∈ List.take f.Params.toNat f.Kinds ∧ (2 == x) = true
    · exact hc
    · exfalso; apply H
      intro i hi
      have hi : i < f.Kinds.length := by simpa using hi
      rw [List.getElem?_eq_getElem hi]
      simp only [Bool.not_eq_true', Bool.and_eq_false_iff, decide_eq_false_iff_not]
      by_cases hip : (i : Int) < f.Params
      · right
        rw [← Bool.not_eq_true]; intro h2
        refine hc ⟨f.Kinds[i], ?_, by simp at h2 ⊢; omega⟩
        have hlt : i < (List.take f.Params.toNat f.Kinds).length := by rw [List.length_take]; omega
        have := List.getElem_mem hlt
        rwa [List.getElem_take] at this
      · exact .inl hip
theorem func_s {f : Func} (h : okF1 f) : shape_Func f = some (funcS f) := by
  unfold shape_Func funcS
  rw [kinds_s h, Option.bind_some]
  cases kindsS f
  · simp [shape_Func.j1]
  simp only [↓reduceIte, within_s, Option.bind_some, Bool.true_and]
  cases hp : wI f.Params 0 (if (f.Kinds.length : Int) < 4 then (f.Kinds.length : Int) else 4)
  · simp [shape_Func.j1]
  simp only [Bool.not_true, shape_Func.j1, Bool.false_eq_true, ↓reduceIte, Bool.true_and]
  have hps := par_s h hp
  obtain ⟨l, hl, hc⟩ := Option.bind_eq_some_iff.1 hps
  rw [hl, Option.bind_some, hc, Option.bind_some]
  cases parS f
  · simp [shape_Func.j2]
  simp only [Bool.not_true, Bool.false_eq_true, ↓reduceIte, Bool.true_and, within_s, Option.bind_some]
  cases wI f.Result 0 1
  · simp [shape_Func.j2]
  simp only [Bool.not_true, Bool.false_eq_true, ↓reduceIte, Bool.true_and, within_s, Option.bind_some, shape_Func.j2]
  cases wI f.Blocks.length 1 40
  · simp
  rw [containsBlock (p := fun b => !blockS b) (by have := h.2.2.1; omega) (fun b hb => by unfold shape_Func_1; rw [block_s (h.2.2.2 b hb)]; rfl)]
  simp [List.not_any_eq_all_not]
theorem func_r {f : Func} (h : okF1 f) : portolanref04_Func f = some (funcS f) := by
  have hall : f.Base.length = f.Kinds.length → f.Kinds.length ≤ 48 → portolanref04_Func.j1 f false = some ((List.range f.Kinds.length).all (entS f) && (parS f && f.Blocks.all blockS)) := by
    intro hb hk
    unfold portolanref04_Func.j1
    simp only [Bool.false_eq_true, ↓reduceIte]
    rw [aft_if (forN_allI (p := fun i => entS f i && (match f.Kinds[i]? with | some k => !(decide ((i : Int) < f.Params) && k == 2) | none => true)) (r := false) (by omega) (fun j hj _ => by
      have hj2 : j < f.Base.length := by omega
      simp only [portolanref04_Func.b1, portolanref04_Func.j2, ixL_lt hj, ixL_lt hj2, Option.bind_some, entS, List.getElem?_eq_getElem hj, List.getElem?_eq_getElem hj2, within_r, w64L h.1, entB]
      generalize f.Kinds[j] = k
      generalize f.Base[j] = b
      by_cases k0 : k = 0
      · by_cases b1 : b = -1 <;> simp [k0, b1, wI]
      · by_cases k1 : k = 1
        · by_cases b1 : b = -1 <;> simp [k1, b1, wI]
        · by_cases k2 : k = 2
          · simp only [k2]
            by_cases hp : (j : Int) < f.Params
            · simp [hp, wI]
            · rw [show wI 2 0 2 = true by decide]
              cases hw : wI b 0 (nQ f.Kinds.length)
              · simp [hp]
              · obtain ⟨x, hx, _⟩ := ixL_in hw
                by_cases hx1 : x = 1 <;> simp [hx, hx1, hp]
          · have : wI k 0 2 = false := by unfold wI; rw [decide_eq_false_iff_not]; omega
            simp [k0, k1, k2, this]))]
    have e : ((List.range f.Kinds.length).all fun i => entS f i && (match f.Kinds[i]? with | some k => !(decide ((i : Int) < f.Params) && k == 2) | none => true)) = ((List.range f.Kinds.length).all (entS f) && parS f) := by
      unfold parS
      rw [Bool.eq_iff_iff, Bool.and_eq_true, List.all_eq_true, List.all_eq_true, List.all_eq_true]
      simp only [Bool.and_eq_true]
      exact ⟨fun H => ⟨fun x hx => (H x hx).1, fun x hx => (H x hx).2⟩, fun H x hx => ⟨H.1 x hx, H.2 x hx⟩⟩
    rw [e]
    have e2 : portolanref04_Func.k1 f = some (f.Blocks.all blockS) := by
      unfold portolanref04_Func.k1
      rw [aft_if (forN_all (p := blockS) (r := false) (by have := h.2.2.1; omega) (fun i b hb => block_r hb (h.2.2.2 b (List.mem_of_getElem? hb))))]
      simp only [portolanref04_Func.k2, iteB]
    rw [e2]
    cases (List.range f.Kinds.length).all (entS f) <;> cases parS f <;> simp
  unfold portolanref04_Func funcS kindsS
  simp only [within_r, Option.bind_some]
  by_cases h48 : f.Kinds.length ≤ 48
  · have e1 : ¬ (48 < (f.Kinds.length : Int)) := by omega
    by_cases hb : f.Base.length = f.Kinds.length
    · have e2 : ((f.Base.length : Int) != (f.Kinds.length : Int)) = false := by simp [hb]
      simp only [e1, decide_false, Bool.false_eq_true, ↓reduceIte, e2]
      cases wI f.Params 0 (if (f.Kinds.length : Int) < 4 then (f.Kinds.length : Int) else 4)
      · simp [portolanref04_Func.j1]
      cases wI f.Result 0 1
      · simp [portolanref04_Func.j1]
      cases wI f.Blocks.length 1 40
      · simp [portolanref04_Func.j1]
      simp only [↓reduceIte, Bool.not_true, hall hb h48]
      simp [h48, hb]
    · have e2 : ((f.Base.length : Int) != (f.Kinds.length : Int)) = true := by simp; omega
      simp [e1, e2, hb, portolanref04_Func.j1]
  · have e1 : (48 < (f.Kinds.length : Int)) := by omega
    simp [e1, h48, portolanref04_Func.j1]
end Go.Pf
end
section
/- Shapes: which instruction and which program may be, by the program and by the document; the size of a program. -/
namespace Go.Pf
open Go.Pp

def okIns (x : Ins) : Prop := okI0 x
def okFn (f : Func) : Prop := okF1 f ∧ ∀ b ∈ f.Blocks, ∀ x ∈ b.Code, okI0 x
def okPr (p : Prog) : Prop := okF0 p ∧ ∀ f ∈ p.Funcs, okFn f
def touchS (x : Ins) : List Int := useS x ++ (if (setS x).2 then [(setS x).1] else [])
def inF (f : Func) (x : Ins) : Bool := (touchS x).all (fun v => wI v 0 (nQ f.Kinds.length)) && (nextS x).all (fun v => wI v 1 (nQ f.Blocks.length))
def insS (p : Prog) (fi : Int) (x : Ins) : Bool :=
  wI fi 0 (nQ p.Funcs.length) && (!(ByteArray.toList (PS x.Op) == ByteArray.toList ({ data := #[] } : ByteArray)) && (bareS x && (numS p x && (match ixL p.Funcs fi with | some f => inF f x | none => false))))
theorem touch_len {x : Ins} (h : okI0 x) : (touchS x).length ≤ 17592186043907 := by
  have := use_len h
  unfold touchS; split <;> simp <;> omega
theorem all_not {l : List Int} {p : Int → Bool} : (!(l.any fun v => !p v)) = l.all p := by rw [List.not_any_eq_all_not]; simp
theorem touch_app {x : Ins} (h : okI0 x) (hs : (setS x).2 = true) : appL 8 (useS x) [(setS x).1] = some (touchS x) := by
  have := use_len h
  rw [appL_ok (by simp; omega)]; unfold touchS; rw [if_pos hs]
theorem ins_s {p : Prog} {fi : Int} {x : Ins} (hp : okPr p) (h : okI0 x) : shape_Ins p fi x = some (insS p fi x) := by
  unfold shape_Ins insS
  simp only [within_s, Option.bind_some, w64L hp.1]
  cases hw : wI fi 0 (nQ p.Funcs.length)
  · simp [shape_Ins.j1]
  obtain ⟨f, hf, hfm⟩ := ixL_in hw
  have hF := (hp.2 f hfm).1
  simp only [↓reduceIte, parts_c, Option.bind_some, bare_s, num_s hp.1, Bool.true_and, hf]
  cases (ByteArray.toList (PS x.Op) == ByteArray.toList ({ data := #[] } : ByteArray))
  rotate_left
  · simp [shape_Ins.j1]
  cases bareS x
  · simp [shape_Ins.j1]
  cases numS p x
  · simp [shape_Ins.j1]
  simp only [shape_Ins.j1, Bool.not_true, Bool.not_false, Bool.false_eq_true, ↓reduceIte, hf, Option.bind_some, use_s h, sets_s, Bool.true_and]
  have hj : ∀ l : List Int, l.length ≤ 17592186043907 → shape_Ins.j2 x f l = some (l.all (fun v => wI v 0 (nQ f.Kinds.length)) && (nextS x).all (fun v => wI v 1 (nQ f.Blocks.length))) := by
    intro l hl
    unfold shape_Ins.j2
    rw [containsInt (p := fun v => !wI v 0 (nQ f.Kinds.length)) (by omega) (fun v _ => by unfold shape_Ins_1; rw [within_s, w64L hF.1]; rfl), Option.bind_some, next_s, Option.bind_some, containsInt (p := fun v => !wI v 1 (nQ f.Blocks.length)) (by have := next_len x; omega) (fun v _ => by unfold shape_Ins_2; rw [within_s, w64L hF.2.2.1]; rfl), Option.bind_some, all_not, ← all_not (l := l)]
    cases l.any fun v => !wI v 0 (nQ f.Kinds.length) <;> simp
  cases hs : (setS x).2
  · simp only [Bool.false_eq_true, ↓reduceIte]
    rw [hj _ (by have := use_len h; omega)]
    unfold inF touchS; simp [hs]
  · simp only [↓reduceIte, touch_app h hs, Option.bind_some]
    rw [hj _ (touch_len h)]; rfl
theorem ins_r {p : Prog} {fi : Int} {x : Ins} (hp : okPr p) (h : okI0 x) : portolanref04_Ins p fi x = some (insS p fi x) := by
  unfold portolanref04_Ins insS
  simp only [within_r, Option.bind_some, w64L hp.1]
  cases hw : wI fi 0 (nQ p.Funcs.length)
  · simp [portolanref04_Ins.j1]
  obtain ⟨f, hf, hfm⟩ := ixL_in hw
  have hF := (hp.2 f hfm).1
  simp only [↓reduceIte, parts_r, Option.bind_some, bare_r, Bool.true_and, hf]
  cases (ByteArray.toList (PS x.Op) == ByteArray.toList ({ data := #[] } : ByteArray))
  rotate_left
  · simp [portolanref04_Ins.j1]
  cases bareS x
  · simp [portolanref04_Ins.j1]
  simp only [portolanref04_Ins.j1, Bool.not_true, Bool.not_false, Bool.false_eq_true, ↓reduceIte, hf, Option.bind_some, use_r h, sets_r, Bool.true_and]
  have hj : ∀ l : List Int, l.length ≤ 17592186043907 → portolanref04_Ins.j2 p x f l = some (numS p x && (l.all (fun v => wI v 0 (nQ f.Kinds.length)) && (nextS x).all (fun v => wI v 1 (nQ f.Blocks.length)))) := by
    intro l hl
    unfold portolanref04_Ins.j2
    rw [aft_if (forN_all (p := fun v => wI v 0 (nQ f.Kinds.length)) (r := false) (by omega) (fun i v hv => by
      simp only [portolanref04_Ins.b1, ixL_of hv, Option.bind_some, within_r, w64L hF.1, iteS]))]
    unfold portolanref04_Ins.k1
    rw [next_r, Option.bind_some, aft_if (forN_all (p := fun v => wI v 1 (nQ f.Blocks.length)) (r := false) (by have := next_len x; omega) (fun i v hv => by
      simp only [portolanref04_Ins.b2, ixL_of hv, Option.bind_some, within_r, w64L hF.2.2.1, iteS]))]
    rw [num_r hp.1]
    cases l.all fun v => wI v 0 (nQ f.Kinds.length) <;> cases (nextS x).all fun v => wI v 1 (nQ f.Blocks.length) <;> simp
  cases hs : (setS x).2
  · simp only [Bool.false_eq_true, ↓reduceIte]
    rw [hj _ (by have := use_len h; omega)]
    unfold inF touchS; simp [hs]
  · simp only [↓reduceIte, touch_app h hs, Option.bind_some]
    rw [hj _ (touch_len h)]; rfl

def codeS (p : Prog) (fi : Int) (f : Func) : Bool := f.Blocks.all fun b => b.Code.all (insS p fi)
def okAt (p : Prog) (i : Nat) : Bool := match p.Funcs[i]? with
  | some f => funcS f && codeS p (i : Int) f
  | none => false
def headS (p : Prog) : Bool := wI p.Funcs.length 1 8 && (match p.Funcs[0]? with | some f => f.Params == 0 && f.Result == 0 | none => false)
def checkS (p : Prog) : Bool := headS p && (List.range p.Funcs.length).all (okAt p)
theorem check_s {p : Prog} (hp : okPr p) : shape_Check p = some (if checkS p then 0 else 5) := by
  have h0 : okF0 p := hp.1
  unfold okF0 at h0
  have hj : shape_Check.j1 p false = some (if (List.range p.Funcs.length).all (okAt p) then 0 else 5) := by
    unfold shape_Check.j1
    simp only [Bool.false_eq_true, ↓reduceIte]
    rw [aft_if (forN_allI (p := okAt p) (r := (5 : Int)) (by omega) (fun j hj _ => by
      have hF := hp.2 _ (List.getElem_mem hj)
      simp only [shape_Check.b1, ixL_lt hj, Option.bind_some, func_s hF.1, okAt, List.getElem?_eq_getElem hj]
      cases funcS p.Funcs[j]
      · simp
      simp only [↓reduceIte, Bool.true_and]
      rw [aft_if (forN_all (p := fun b => b.Code.all (insS p j)) (r := (5 : Int)) (by have := hF.1.2.2.1; omega) (fun i b hb => by
        have hbm := List.mem_of_getElem? hb
        simp only [shape_Check.b2, ixL_of hb, Option.bind_some]
        rw [containsIns (p := fun x => !insS p j x) (by have := hF.1.2.2.2 b hbm; omega) (fun x hx => by unfold shape_Check_1; rw [ins_s hp (hF.2 b hbm x hx)]; rfl), Option.bind_some, ← Bool.not_not (b := b.Code.all _), List.not_all_eq_any_not]
        cases b.Code.any fun x => !insS p (j : Int) x <;> simp))]
      simp only [shape_Check.k2]
      by_cases hc : codeS p (j : Int) p.Funcs[j] = true
      · have hc' := hc; unfold codeS at hc'; rw [if_pos hc', if_pos hc]
      · have hc' := hc; unfold codeS at hc'; rw [if_neg hc', if_neg hc]))]
    simp only [shape_Check.k1, iteS]
  unfold shape_Check checkS headS
  rw [within_s, Option.bind_some]
  cases hw : wI p.Funcs.length 1 8
  · simp [shape_Check.j1]
  have hlen : 0 < p.Funcs.length := by unfold wI at hw; have := of_decide_eq_true hw; omega
  have e := ixL_lt (l := p.Funcs) (i := 0) hlen
  simp only [↓reduceIte, show ixL p.Funcs 0 = some p.Funcs[0] from e, Option.bind_some, List.getElem?_eq_getElem hlen, bne]
  cases p.Funcs[0].Params == 0
  · simp [shape_Check.j1]
  cases p.Funcs[0].Result == 0
  · simp [shape_Check.j1]
  simp [hj]
theorem check_r {p : Prog} (hp : okPr p) : portolanref04_Check p = some (if checkS p then 0 else 5) := by
  have h0 : okF0 p := hp.1
  unfold okF0 at h0
  have hj : portolanref04_Check.j1 p false = some (if (List.range p.Funcs.length).all (okAt p) then 0 else 5) := by
    unfold portolanref04_Check.j1
    simp only [Bool.false_eq_true, ↓reduceIte]
    rw [aft_if (forN_allI (p := okAt p) (r := (5 : Int)) (by omega) (fun j hj _ => by
      have hF := hp.2 _ (List.getElem_mem hj)
      simp only [portolanref04_Check.b1, ixL_lt hj, Option.bind_some, func_r hF.1, okAt, List.getElem?_eq_getElem hj]
      cases funcS p.Funcs[j]
      · simp
      simp only [↓reduceIte, Bool.true_and]
      rw [aft_if (forN_all (p := fun b => b.Code.all (insS p j)) (r := (5 : Int)) (by have := hF.1.2.2.1; omega) (fun i b hb => by
        have hbm := List.mem_of_getElem? hb
        have hbl := hF.1.2.2.2 b hbm
        obtain ⟨o, ho, hq⟩ := whileF_rule (body := portolanref04_Check.b3 p p.Funcs[j] j i) (fun s => ∃ k : Nat, s = (k : Int) ∧ k ≤ b.Code.length ∧ ∀ m (hm : m < b.Code.length), m < k → insS p j b.Code[m] = true) (fun s => (b.Code.length - s).toNat)
          (fun o => (∃ s, o = .brk s ∧ b.Code.all (insS p j) = true) ∨ (o = .ret 5 ∧ b.Code.all (insS p j) = false))
          (fun s hs => by
            obtain ⟨k, rfl, hk, hI⟩ := hs
            simp only [portolanref04_Check.b3, ixL_of hb, Option.bind_some]
            by_cases hkl : k < b.Code.length
            · have e1 : (k : Int) < b.Code.length := by omega
              simp only [e1, decide_true, ↓reduceIte, ixL_lt hkl, Option.bind_some, ins_r hp (hF.2 b hbm _ (List.getElem_mem hkl))]
              cases hi : insS p j b.Code[k]
              · exact ⟨_, rfl, .inr ⟨rfl, by rw [← Bool.not_eq_true, List.all_eq_true]; intro H; rw [H _ (List.getElem_mem hkl)] at hi; cases hi⟩⟩
              · refine ⟨_, rfl, ⟨k + 1, by rw [w64_id (by omega) (by omega)]; rfl, by omega, fun m hm hmk => ?_⟩, by rw [w64_id (by omega) (by omega)]; omega⟩
                by_cases e : m = k
                · subst e; exact hi
                · exact hI m hm (by omega)
            · have e1 : ¬ (k : Int) < b.Code.length := by omega
              simp only [e1, decide_false, Bool.false_eq_true, ↓reduceIte]
              refine ⟨_, rfl, .inl ⟨_, rfl, List.all_eq_true.2 fun x hx => ?_⟩⟩
              obtain ⟨m, hm, rfl⟩ := List.mem_iff_getElem.1 hx
              exact hI m hm (by omega)) 18446744073709551616 0 ⟨0, rfl, by omega, fun _ _ h => by omega⟩ (by omega)
        simp only [portolanref04_Check.b2]
        rw [ho]
        rcases hq with ⟨s, rfl, ha⟩ | ⟨rfl, ha⟩ <;> simp [ha, aft, portolanref04_Check.k3]))]
      simp only [portolanref04_Check.k2]
      by_cases hc : codeS p (j : Int) p.Funcs[j] = true
      · have hc' := hc; unfold codeS at hc'; rw [if_pos hc', if_pos hc]
      · have hc' := hc; unfold codeS at hc'; rw [if_neg hc', if_neg hc]))]
    simp only [portolanref04_Check.k1, iteS]
  unfold portolanref04_Check checkS headS
  rw [within_r, Option.bind_some]
  cases hw : wI p.Funcs.length 1 8
  · simp [portolanref04_Check.j1]
  have hlen : 0 < p.Funcs.length := by unfold wI at hw; have := of_decide_eq_true hw; omega
  have e := ixL_lt (l := p.Funcs) (i := 0) hlen
  simp only [↓reduceIte, show ixL p.Funcs 0 = some p.Funcs[0] from e, Option.bind_some, List.getElem?_eq_getElem hlen, bne]
  cases p.Funcs[0].Params == 0
  · simp [portolanref04_Check.j1]
  cases p.Funcs[0].Result == 0
  · simp [portolanref04_Check.j1]
  simp [hj]

theorem great_t {p : Prog} (hp : okPr p) : ∃ b, portolanref03_Great p = some b := by
  have h0 : okF0 p := hp.1
  unfold okF0 at h0
  have hin : ∀ (i : Nat) (f : Func), okFn f → ∀ (j : Nat) (b : Block), f.Blocks[j]? = some b → ∀ x : Int, 0 ≤ x → x ≤ 281474976710656000 → ∃ o, whileF (portolanref03_Great.b3 f j) 18446744073709551616 (x, 0) = some o ∧ ∃ s, o = .brk s ∧ 0 ≤ s.1 ∧ s.1 ≤ 562949953421312000 := by
    intro i f hf j b hb x hx0 hx1
    have hbm := List.mem_of_getElem? hb
    have hbl := hf.1.2.2.2 b hbm
    refine whileF_rule (body := portolanref03_Great.b3 f j) (fun s => 0 ≤ s.1 ∧ s.1 ≤ 562949953421312000 ∧ ∃ k : Nat, s.2 = (k : Int) ∧ k ≤ b.Code.length) (fun s => (b.Code.length - s.2).toNat) _ (fun s hs => ?_) 18446744073709551616 (x, 0) ⟨hx0, by simp only; omega, 0, rfl, by omega⟩ (by simp only; omega)
    obtain ⟨y, z⟩ := s
    obtain ⟨h1, h2, k, rfl, hk⟩ := hs
    simp only [portolanref03_Great.b3, ixL_of hb, Option.bind_some]
    by_cases hkl : k < b.Code.length
    · have e1 : (k : Int) < b.Code.length := by omega
      by_cases h3 : y ≤ 3000
      · have ha := hf.2 b hbm _ (List.getElem_mem hkl)
        unfold okI0 at ha
        simp only at h1 h2
        simp only [e1, decide_true, ↓reduceIte, h3, portolanref03_Great.j1, ixL_of hb, Option.bind_some, ixL_lt hkl]
        refine ⟨_, rfl, ⟨?_, ?_, k + 1, ?_, by omega⟩, ?_⟩ <;> simp only
        · rw [w64_id (by omega) (by omega)]; omega
        · rw [w64_id (by omega) (by omega)]; omega
        · rw [w64_id (by omega) (by omega)]; rfl
        · rw [w64_id (by omega) (by omega)]; omega
      · simp only [e1, decide_true, ↓reduceIte, h3, portolanref03_Great.j1, decide_false, Bool.false_eq_true]
        exact ⟨_, rfl, _, rfl, h1, h2⟩
    · have e1 : ¬ (k : Int) < b.Code.length := by omega
      simp only [e1, decide_false, Bool.false_eq_true, ↓reduceIte, portolanref03_Great.j1]
      exact ⟨_, rfl, _, rfl, h1, h2⟩
  obtain ⟨o, ho, s, hs⟩ := forN_rule (body := portolanref03_Great.b1 p) (s := (p.Funcs.length : Int)) (n := p.Funcs.length) (fun _ x => 0 ≤ x ∧ x ≤ 562949953421312000) (fun o => ∃ s, o = .next s ∨ o = .brk s) (by omega) ⟨by omega, by omega⟩ (fun j s hj hI => by
    have hF := hp.2 _ (List.getElem_mem hj)
    have hk := hF.1.1
    have hb := hF.1.2.1
    have hl := hF.1.2.2.1
    simp only [portolanref03_Great.b1]
    by_cases h3 : s ≤ 3000
    · simp only [h3, decide_true, ↓reduceIte, ixL_lt hj, Option.bind_some]
      rw [w64_id (n := s + (p.Funcs[j].Kinds.length : Int)) (by omega) (by omega), w64_id (n := s + (p.Funcs[j].Kinds.length : Int) + (p.Funcs[j].Base.length : Int)) (by omega) (by omega), w64_id (n := s + (p.Funcs[j].Kinds.length : Int) + (p.Funcs[j].Base.length : Int) + (p.Funcs[j].Blocks.length : Int)) (by omega) (by omega)]
      obtain ⟨o, ho, s', hs, h1, h2⟩ := forN_rule (body := portolanref03_Great.b2 p.Funcs[j]) (s := s + (p.Funcs[j].Kinds.length : Int) + (p.Funcs[j].Base.length : Int) + (p.Funcs[j].Blocks.length : Int)) (n := p.Funcs[j].Blocks.length) (fun _ x => 0 ≤ x ∧ x ≤ 562949953421312000) (fun o => ∃ s, (o = .next s ∨ o = .brk s) ∧ 0 ≤ s ∧ s ≤ 562949953421312000) (by omega) ⟨by omega, by omega⟩ (fun i y hi hI2 => by
        have hcl := hF.1.2.2.2 _ (List.getElem_mem hi)
        simp only [portolanref03_Great.b2]
        by_cases h4 : y ≤ 3000
        · simp only [h4, decide_true, ↓reduceIte, ixL_lt hi, Option.bind_some]
          rw [w64_id (by omega) (by omega)]
          obtain ⟨o, ho, s, rfl, h5, h6⟩ := hin j p.Funcs[j] hF i _ (List.getElem?_eq_getElem hi) (y + (p.Funcs[j].Blocks[i].Code.length : Int)) (by omega) (by omega)
          rw [aft_brk ho]
          exact ⟨_, rfl, h5, h6⟩
        · simp only [h4, decide_false, Bool.false_eq_true, ↓reduceIte]
          exact ⟨_, rfl, _, .inr rfl, hI2.1, hI2.2⟩) (fun s h => ⟨s, .inl rfl, h.1, h.2⟩)
      rcases hs with rfl | rfl
      · rw [aft_next ho]; exact ⟨_, rfl, h1, h2⟩
      · rw [aft_brk ho]; exact ⟨_, rfl, h1, h2⟩
    · simp only [h3, decide_false, Bool.false_eq_true, ↓reduceIte]
      exact ⟨_, rfl, _, .inr rfl⟩) (fun s _ => ⟨s, .inl rfl⟩)
  unfold portolanref03_Great
  rcases hs with rfl | rfl
  · rw [aft_next ho]; exact ⟨_, rfl⟩
  · rw [aft_brk ho]; exact ⟨_, rfl⟩
end Go.Pf
end
section
/- The plain laws of shapes. -/
namespace Go.Pf
open Go.Pp

theorem forN_ok {R : Type} {body : Nat → Unit → Option (LR Unit R)} {n : Nat} (hn : n ≤ 4611686018427387904) (h : ∀ j, j < n → body j () = some (.next ())) : forN (n : Int) body () = some (.next ()) := by
  obtain ⟨o, ho, rfl⟩ := forN_rule (body := body) (s := ()) (n := n) (fun _ _ => True) (fun o => o = .next ()) hn trivial (fun j s hj _ => ⟨_, h j hj, trivial⟩) (fun _ _ => rfl)
  exact ho
theorem ShapeChecks_plain {p : Prog} (hp : okPr p) : portolanlaw04_ShapeChecks p = some true := by
  have h0 : okF0 p := hp.1
  unfold okF0 at h0
  unfold portolanlaw04_ShapeChecks portolanlaw04_alive
  obtain ⟨b, hb⟩ := great_t hp
  simp only [Option.bind_some, ↓reduceIte, hb]
  cases b
  · simp only [Bool.false_eq_true, ↓reduceIte]
    rw [aft_next (forN_ok (by omega) (fun j hj => by
      simp only [portolanlaw04_ShapeChecks.b1, ixL_lt hj, Option.bind_some, func_s (hp.2 _ (List.getElem_mem hj)).1, func_r (hp.2 _ (List.getElem_mem hj)).1, beq_self_eq_true, ↓reduceIte]))]
    unfold portolanlaw04_ShapeChecks.k1
    rw [check_s hp, Option.bind_some, check_r hp, Option.bind_some]
    simp
  · rfl
theorem ints_same {l : List Int} (h : l.length ≤ 4611686018427387904) : portolanref01_Ints l l = some true := by
  unfold portolanref01_Ints
  simp only [bne_self_eq_false, Bool.false_eq_true, ↓reduceIte]
  rw [aft_next (forN_ok (by omega) (fun j hj => by simp [portolanref01_Ints.b1, ixL_lt hj]))]
  rfl
theorem ShapeIns_plain {p : Prog} {fi : Int} {x : Ins} (hp : okPr p) (hx : okI0 x) : portolanlaw04_ShapeIns p fi x = some true := by
  unfold portolanlaw04_ShapeIns portolanlaw04_alive
  obtain ⟨b, hb⟩ := great_t hp
  have hj : ∀ c, portolanlaw04_ShapeIns.j1 p fi x c = some true := by
    intro c
    unfold portolanlaw04_ShapeIns.j1
    cases c
    · have := use_len hx
      have := next_len x
      simp only [Bool.false_eq_true, ↓reduceIte, sets_s, sets_r, ins_s hp hx, ins_r hp hx, last_s, last_r, use_s hx, use_r hx, next_s, next_r, Option.bind_some, beq_self_eq_true, ints_same (l := useS x) (by omega), ints_same (l := nextS x) (by omega)]
    · rfl
  simp only [Option.bind_some, ↓reduceIte, hb, hj]
  cases b <;> rfl

theorem check_parts {p : Prog} (h : checkS p = true) : (∀ (i : Nat) (hi : i < p.Funcs.length), funcS p.Funcs[i] = true ∧ codeS p (i : Int) p.Funcs[i] = true) ∧ headS p = true := by
  unfold checkS at h
  rw [Bool.and_eq_true, List.all_eq_true] at h
  refine ⟨fun i hi => ?_, h.1⟩
  have := h.2 i (by simpa using hi)
  unfold okAt at this
  rw [List.getElem?_eq_getElem hi] at this
  simpa using this
theorem func_blocks {f : Func} (h : funcS f = true) : 1 ≤ f.Blocks.length ∧ f.Params ≤ f.Kinds.length ∧ ∀ b ∈ f.Blocks, 1 ≤ b.Code.length ∧ ∀ (i : Nat) (hi : i < b.Code.length), lastS b.Code[i].Op = ((i : Int) == nQ b.Code.length) := by
  unfold funcS at h
  simp only [Bool.and_eq_true] at h
  obtain ⟨_, hp, _, _, hb, hall⟩ := h
  unfold wI at hp hb
  have hp := of_decide_eq_true hp
  have hb := of_decide_eq_true hb
  refine ⟨by omega, by split at hp <;> omega, fun b hbm => ?_⟩
  have := List.all_eq_true.1 hall b hbm
  unfold blockS at this
  rw [Bool.and_eq_true, List.all_eq_true] at this
  obtain ⟨h1, h2⟩ := this
  unfold wI at h1
  have h1 := of_decide_eq_true h1
  refine ⟨by omega, fun i hi => ?_⟩
  have := h2 i (by simpa using hi)
  unfold lastAt at this
  rw [List.getElem?_eq_getElem hi] at this
  exact eq_of_beq this
theorem code_ins {p : Prog} {i : Nat} {hi : i < p.Funcs.length} (h : codeS p (i : Int) p.Funcs[i] = true) {b : Block} (hb : b ∈ p.Funcs[i].Blocks) {x : Ins} (hx : x ∈ b.Code) : inF p.Funcs[i] x = true := by
  unfold codeS at h
  have := List.all_eq_true.1 (List.all_eq_true.1 h b hb) x hx
  unfold insS at this
  rw [ixL_lt hi] at this
  simp only [Bool.and_eq_true] at this
  exact this.2.2.2.2
theorem inF_next {f : Func} {x : Ins} (h : inF f x = true) : ∀ v ∈ nextS x, 1 ≤ v ∧ v < f.Blocks.length := by
  unfold inF at h
  rw [Bool.and_eq_true] at h
  intro v hv
  have := List.all_eq_true.1 h.2 v hv
  unfold wI nQ at this
  have := of_decide_eq_true this
  omega
theorem inF_use {f : Func} {x : Ins} (h : inF f x = true) : ∀ v ∈ useS x, 0 ≤ v ∧ v < f.Kinds.length := by
  unfold inF at h
  rw [Bool.and_eq_true] at h
  intro v hv
  have := List.all_eq_true.1 h.1 v (by unfold touchS; exact List.mem_append.2 (.inl hv))
  unfold wI nQ at this
  have := of_decide_eq_true this
  omega
theorem next_last (x : Ins) : (0 < (nextS x).length → lastS x.Op = true) ∧ ((nextS x).length = 0 → lastS x.Op = true → x.Op = 23) := by
  unfold nextS lastS wI
  by_cases h1 : x.Op = 21
  · simp [h1]
  · by_cases h2 : x.Op = 22
    · simp only [h2]
      constructor
      · intro _; decide
      · intro h; exfalso; revert h; simp; (repeat' split) <;> simp
    · simp [h1, h2]; omega
theorem ShapeLasts_plain {p : Prog} (hp : okPr p) : portolanlaw04_ShapeLasts p = some true := by
  have h0 : okF0 p := hp.1
  unfold okF0 at h0
  unfold portolanlaw04_ShapeLasts portolanlaw04_alive
  obtain ⟨b, hb⟩ := great_t hp
  simp only [Option.bind_some, ↓reduceIte, hb, check_s hp]
  cases b
  rotate_left
  · rfl
  simp only [Bool.false_eq_true, ↓reduceIte]
  cases hc : checkS p
  · rfl
  simp only [↓reduceIte, show ((0 : Int) != 0) = false by decide]
  unfold portolanlaw04_ShapeLasts.j1
  simp only [Bool.false_eq_true, ↓reduceIte]
  obtain ⟨hcp, _⟩ := check_parts hc
  rw [aft_next (forN_ok (by omega) (fun i hi => by
    obtain ⟨hfu, hco⟩ := hcp i hi
    have hF := hp.2 _ (List.getElem_mem hi)
    have hbl := hF.1.2.2.1
    simp only [portolanlaw04_ShapeLasts.b1, ixL_lt hi, Option.bind_some]
    rw [aft_next (forN_ok (by omega) (fun j hj => by
      have hbm := List.getElem_mem hj
      obtain ⟨hlen, hlast⟩ := (func_blocks hfu).2.2 _ hbm
      have hcl := hF.1.2.2.2 _ hbm
      simp only [portolanlaw04_ShapeLasts.b2, ixL_lt hj, Option.bind_some]
      rw [aft_next (forN_ok (by omega) (fun k hk => by
        have hxm := List.getElem_mem hk
        have hin := code_ins hco hbm hxm
        have hx0 := hF.2 _ hbm _ hxm
        have hl := hlast k hk
        have hj2 : portolanlaw04_ShapeLasts.j2 p.Funcs[i] p.Funcs[i].Blocks[j] (nextS p.Funcs[i].Blocks[j].Code[k]) k = some (.next ()) := by
          unfold portolanlaw04_ShapeLasts.j2
          have := next_len p.Funcs[i].Blocks[j].Code[k]
          rw [aft_next (forN_ok (by omega) (fun m hm => by
            have hv := inF_next hin _ (List.getElem_mem hm)
            have e1 : ¬ (nextS p.Funcs[i].Blocks[j].Code[k])[m] < 1 := by omega
            have e2 : ¬ (p.Funcs[i].Blocks.length : Int) ≤ (nextS p.Funcs[i].Blocks[j].Code[k])[m] := by omega
            simp only [portolanlaw04_ShapeLasts.b4, ixL_lt hm, Option.bind_some, e1, e2, decide_false, Bool.false_eq_true, ↓reduceIte]))]
          unfold portolanlaw04_ShapeLasts.k4
          have := use_len hx0
          simp only [ixL_lt hk, Option.bind_some, use_s hx0]
          rw [aft_next (forN_ok (by omega) (fun m hm => by
            have hv := inF_use hin _ (List.getElem_mem hm)
            have e1 : ¬ (useS p.Funcs[i].Blocks[j].Code[k])[m] < 0 := by omega
            have e2 : ¬ (p.Funcs[i].Kinds.length : Int) ≤ (useS p.Funcs[i].Blocks[j].Code[k])[m] := by omega
            simp only [portolanlaw04_ShapeLasts.b5, ixL_lt hm, Option.bind_some, e1, e2, decide_false, Bool.false_eq_true, ↓reduceIte]))]
          rfl
        obtain ⟨hn1, hn2⟩ := next_last p.Funcs[i].Blocks[j].Code[k]
        simp only [portolanlaw04_ShapeLasts.b3, ixL_lt hk, Option.bind_some, next_s, last_s, w64L hcl, hl, beq_self_eq_true, ↓reduceIte, hj2]
        rw [hl] at hn1 hn2
        by_cases hnz : (nextS p.Funcs[i].Blocks[j].Code[k]).length = 0
        · have e1 : ¬ (0 < ((nextS p.Funcs[i].Blocks[j].Code[k]).length : Int)) := by omega
          have e2 : (((nextS p.Funcs[i].Blocks[j].Code[k]).length : Int) == 0) = true := by simp; exact List.length_eq_zero_iff.1 hnz
          simp only [e1, decide_false, Bool.false_eq_true, ↓reduceIte, e2]
          cases hkq : ((k : Int) == nQ p.Funcs[i].Blocks[j].Code.length)
          · simp
          · have h23 := hn2 hnz hkq
            simp [h23]
        · have e1 : (0 < ((nextS p.Funcs[i].Blocks[j].Code[k]).length : Int)) := by omega
          have e2 : (((nextS p.Funcs[i].Blocks[j].Code[k]).length : Int) == 0) = false := by
            rw [← Bool.not_eq_true]; intro h; have := eq_of_beq h; omega
          have hkq := eq_of_beq (hn1 (by omega))
          have e3 : ¬ ((k : Int) < nQ p.Funcs[i].Blocks[j].Code.length) := by omega
          simp only [e1, decide_true, ↓reduceIte, e2, Bool.false_eq_true, e3, decide_false]))]
      rfl))]
    rfl))]
  rfl
theorem ShapeFirst_plain {p : Prog} (hp : okPr p) : portolanlaw04_ShapeFirst p = some true := by
  have h0 : okF0 p := hp.1
  unfold okF0 at h0
  unfold portolanlaw04_ShapeFirst portolanlaw04_alive
  obtain ⟨b, hb⟩ := great_t hp
  simp only [Option.bind_some, ↓reduceIte, hb, check_s hp]
  cases b
  rotate_left
  · rfl
  simp only [Bool.false_eq_true, ↓reduceIte]
  cases hc : checkS p
  · rfl
  simp only [↓reduceIte, show ((0 : Int) != 0) = false by decide]
  unfold portolanlaw04_ShapeFirst.j1
  simp only [Bool.false_eq_true, ↓reduceIte]
  obtain ⟨hcp, hhd⟩ := check_parts hc
  rw [aft_next (forN_ok (by omega) (fun i hi => by
    obtain ⟨hfu, hco⟩ := hcp i hi
    have hF := hp.2 _ (List.getElem_mem hi)
    have hbl := hF.1.2.2.1
    obtain ⟨hb1, hpk, hbs⟩ := func_blocks hfu
    have e1 : ((p.Funcs[i].Blocks.length : Int) == 0) = false := by rw [← Bool.not_eq_true]; intro h; have := eq_of_beq h; omega
    have e2 : ¬ ((p.Funcs[i].Kinds.length : Int) < p.Funcs[i].Params) := by omega
    simp only [portolanlaw04_ShapeFirst.b1, ixL_lt hi, Option.bind_some, e1, Bool.false_eq_true, ↓reduceIte, e2, decide_false, portolanlaw04_ShapeFirst.j2]
    rw [aft_next (forN_ok (by omega) (fun j hj => by
      have hbm := List.getElem_mem hj
      obtain ⟨hlen, hlast⟩ := hbs _ hbm
      have hcl := hF.1.2.2.2 _ hbm
      have hk : p.Funcs[i].Blocks[j].Code.length - 1 < p.Funcs[i].Blocks[j].Code.length := by omega
      have hix : ixL p.Funcs[i].Blocks[j].Code (nQ p.Funcs[i].Blocks[j].Code.length) = some p.Funcs[i].Blocks[j].Code[p.Funcs[i].Blocks[j].Code.length - 1] := by
        rw [← ixL_lt hk]; congr 1; unfold nQ; omega
      have hl := hlast _ hk
      have hkq : (((p.Funcs[i].Blocks[j].Code.length - 1 : Nat) : Int) == nQ p.Funcs[i].Blocks[j].Code.length) = true := by unfold nQ; simp; omega
      have hin := code_ins hco hbm (List.getElem_mem hk)
      have e3 : ((p.Funcs[i].Blocks[j].Code.length : Int) == 0) = false := by rw [← Bool.not_eq_true]; intro h; have := eq_of_beq h; omega
      have := next_len p.Funcs[i].Blocks[j].Code[p.Funcs[i].Blocks[j].Code.length - 1]
      simp only [portolanlaw04_ShapeFirst.b2, ixL_lt hj, Option.bind_some, e3, Bool.false_eq_true, ↓reduceIte, w64L hcl, hix, last_s, hl, hkq, Bool.not_true, portolanlaw04_ShapeFirst.j3, next_s]
      rw [aft_next (forN_ok (by omega) (fun m hm => by
        have hv := inF_next hin _ (List.getElem_mem hm)
        have e4 : ((nextS p.Funcs[i].Blocks[j].Code[p.Funcs[i].Blocks[j].Code.length - 1])[m] == 0) = false := by rw [← Bool.not_eq_true]; intro h; have := eq_of_beq h; omega
        simp only [portolanlaw04_ShapeFirst.b3, ixL_lt hm, Option.bind_some, e4, Bool.false_eq_true, ↓reduceIte]))]
      rfl))]
    rfl))]
  unfold portolanlaw04_ShapeFirst.k1
  unfold headS at hhd
  rw [Bool.and_eq_true] at hhd
  cases h1 : p.Funcs[0]? with
  | none => rw [h1] at hhd; simp at hhd
  | some f =>
    rw [h1] at hhd
    simp only [Bool.and_eq_true] at hhd
    rw [show ixL p.Funcs 0 = some f from ixL_of (i := 0) h1, Option.bind_some, hhd.2.1]
end Go.Pf
end
section
/- Numbers in few bytes: what both texts compute. -/
namespace Go.Pf
open Go.Pp

/-- a number's bytes -/
def digS (n : Nat) : List Int := if n < 128 then [(n : Int)] else ((n % 128 + 128 : Nat) : Int) :: digS (n / 128)
termination_by n
decreasing_by omega
theorem digS_small {n : Nat} (h : n < 128) : digS n = [(n : Int)] := by rw [digS, if_pos h]
theorem digS_big {n : Nat} (h : ¬ n < 128) : digS n = ((n % 128 + 128 : Nat) : Int) :: digS (n / 128) := by rw [digS, if_neg h]
theorem digS_len : ∀ (k n : Nat), n < 128 ^ (k+1) → (digS n).length ≤ k + 1
  | 0, n, h => by rw [digS_small (by simpa using h)]; simp
  | k+1, n, h => by
    by_cases hn : n < 128
    · rw [digS_small hn]; simp
    · rw [digS_big hn, List.length_cons]
      have := digS_len k (n / 128) (by rw [Nat.pow_succ] at h; omega)
      omega
theorem digS_pos (n : Nat) : 1 ≤ (digS n).length := by rw [digS]; split <;> simp
theorem digS_len10 {n : Nat} (h : n < 18446744073709551616) : (digS n).length ≤ 10 := digS_len 9 n (Nat.lt_of_lt_of_le h (by decide))
theorem digS_byte : ∀ (n : Nat), ∀ x ∈ digS n, 0 ≤ x ∧ x ≤ 255 := by
  intro n
  induction n using Nat.strongRecOn with
  | _ n ih =>
    intro x hx
    by_cases hn : n < 128
    · rw [digS_small hn] at hx; simp at hx; omega
    · rw [digS_big hn] at hx
      rcases List.mem_cons.1 hx with rfl | h
      · omega
      · exact ih (n / 128) (by omega) x h
theorem or8 : ∀ a : Fin 256, u8 (orW 8 (u8 (a.val : Int)) 128) = ((a.val % 128 + 128 : Nat) : Int) := by decide +kernel
theorem or8_128 (x : Nat) : u8 (orW 8 (u8 (x : Int)) 128) = ((x % 128 + 128 : Nat) : Int) := by
  have h : u8 (x : Int) = ((x % 256 : Nat) : Int) := by unfold u8; omega
  have := or8 ⟨x % 256, by omega⟩
  simp only [] at this
  rw [show u8 ((x % 256 : Nat) : Int) = ((x % 256 : Nat) : Int) by unfold u8; omega] at this
  rw [h, this]
  omega
theorem shr7 (x : Nat) : shrE (x : Int) 7 64 = ((x / 128 : Nat) : Int) := by
  unfold shrE
  rw [show (2 : Int) ^ min (Int.toNat 7) 64 = 128 from rfl, Int.fdiv_eq_ediv_of_nonneg _ (by omega)]
  omega
theorem put_t {l : List Int} {n : Nat} (hl : l.length ≤ 100000000000000) (hn : n < 18446744073709551616) : varint_put l (n : Int) = some (l ++ digS n) := by
  have hd := digS_len10 hn
  unfold varint_put slices_Clip_byte
  rw [Option.bind_some]
  obtain ⟨o, ho, hq⟩ := whileF_rule (body := varint_put.b1) (fun s => ∃ m : Nat, s.2 = (m : Int) ∧ s.1 ++ digS m = l ++ digS n) (fun s => s.2.toNat)
    (fun o => ∃ x : List Int, ∃ m : Nat, o = .brk (x, (m : Int)) ∧ m < 128 ∧ x ++ digS m = l ++ digS n)
    (fun s hs => by
      obtain ⟨x, _⟩ := s
      obtain ⟨m, hm1, hm2⟩ := hs
      simp only [] at hm1
      subst hm1
      simp only [varint_put.b1]
      have hlen := congrArg List.length hm2
      simp only [List.length_append] at hlen
      have h1 := digS_pos m
      by_cases h : m < 128
      · have : ¬ (128 : Int) ≤ m := by omega
        rw [if_neg (by simpa using this)]
        exact ⟨.brk (x, (m : Int)), rfl, x, m, rfl, h, hm2⟩
      · rw [if_pos (by simp; omega), appL_ok (by simp only [List.length_singleton]; omega), Option.bind_some]
        refine ⟨_, rfl, ⟨m / 128, shr7 m, ?_⟩, ?_⟩
        · rw [or8_128, ← hm2, digS_big h]; simp
        · simp only [shr7]; omega) 18446744073709551616 (l, (n : Int)) ⟨n, rfl, rfl⟩ (by simpa using hn)
  obtain ⟨x, m, rfl, hm, hx⟩ := hq
  rw [aft_brk ho]
  simp only [varint_put.k1]
  have hlen := congrArg List.length hx
  simp only [List.length_append] at hlen
  have h1 := digS_pos m
  rw [appL_ok (by simp only [List.length_singleton]; omega), Option.bind_some, ← hx, digS_small hm, u8_id (by omega) (by omega)]
/-- a number's bytes; of one below 0, none -/
def putS (n : Int) : List Int := if n < 0 then [] else digS n.toNat
def okI (n : Int) : Prop := -9223372036854775808 ≤ n ∧ n ≤ 9223372036854775807
theorem putS_len {n : Int} (h : okI n) : (putS n).length ≤ 10 := by
  unfold putS okI at *; split
  · simp
  · exact digS_len10 (by omega)
theorem Put_t {l : List Int} {n : Int} (hl : l.length ≤ 100000000000000) (hn : okI n) : varint_Put l n = some (l ++ putS n) := by
  unfold okI at hn
  unfold varint_Put putS slices_Clone_byte
  by_cases h : n < 0
  · simp only [h, decide_true, ↓reduceIte]
    rw [appL_ok (by simp; omega)]; simp
  · simp only [h, decide_false, Bool.false_eq_true, ↓reduceIte]
    obtain ⟨m, rfl⟩ : ∃ m : Nat, n = (m : Int) := ⟨n.toNat, by omega⟩
    rw [u64_id (by omega) (by omega), put_t hl (by omega)]
    simp
theorem List_t {l : List Int} (hl : l.length ≤ 1000000) (hn : ∀ n ∈ l, okI n) : varint_List l = some (l.flatMap putS) := by
  unfold varint_List
  have := forN_app (l := l) (body := varint_List.b1 l) (g := putS) (s := []) 10 100000000000000 (by omega) (by simp; omega) (fun x hx => putS_len (hn x hx))
    (fun i x s hx hs => by simp only [varint_List.b1, ixL_of hx, Option.bind_some]; rw [Put_t (by omega) (hn x (List.mem_of_getElem? hx)), Option.bind_some])
  rw [aft_next this.1]; simp [varint_List.k1]
/-- a signed number as one without a sign -/
def turnS (n : Int) : Nat := if n < 0 then (-(n+1)).toNat * 2 + 1 else n.toNat * 2
theorem turnS_lt {n : Int} (h : okI n) : turnS n < 18446744073709551616 := by unfold turnS okI at *; split <;> omega
theorem xor_ones {a : Nat} (h : a < 2 ^ 64) : (a ^^^ (2 ^ 64 - 1)) = 2 ^ 64 - 1 - a := by
  refine Nat.eq_of_testBit_eq fun i => ?_
  rw [Nat.testBit_xor, Nat.testBit_two_pow_sub_one]
  rw [show 2 ^ 64 - 1 - a = 2 ^ 64 - (a + 1) by omega, Nat.testBit_two_pow_sub_succ h]
  by_cases hi : i < 64
  · simp [hi]
  · simp only [hi, decide_false, Bool.bne_false, Bool.false_and]
    exact Nat.testBit_lt_two_pow (Nat.lt_of_lt_of_le h (Nat.pow_le_pow_right (by omega) (by omega)))
theorem xorW_nat {a b : Nat} (ha : a < 18446744073709551616) (hb : b < 18446744073709551616) : xorW 64 (a : Int) (b : Int) = ((a ^^^ b : Nat) : Int) := by
  unfold xorW
  rw [BitVec.toNat_xor, BitVec.toNat_ofInt, BitVec.toNat_ofInt]
  congr 2 <;> omega
theorem turned_t {n : Int} (h : okI n) : u64 (xorW 64 (u64 (shlE (u64 n) 1 64)) (u64 (shrE n 63 64))) = (turnS n : Int) := by
  unfold okI at h
  have e1 : shlE (u64 n) 1 64 = u64 n * 2 := by unfold shlE; rfl
  have e2 : shrE n 63 64 = if n < 0 then -1 else 0 := by
    unfold shrE
    rw [show (2 : Int) ^ min (Int.toNat 63) 64 = 9223372036854775808 from rfl, Int.fdiv_eq_ediv_of_nonneg _ (by omega)]
    split <;> omega
  rw [e1, e2]
  by_cases hn : n < 0
  · have h1 : u64 (u64 n * 2) = ((18446744073709551615 - (turnS n) : Nat) : Int) := by unfold u64 turnS; rw [if_pos hn]; omega
    have h2 : u64 (if n < 0 then (-1) else 0) = ((18446744073709551615 : Nat) : Int) := by rw [if_pos hn]; rfl
    have h3 := turnS_lt (n := n) h
    rw [h1, h2, xorW_nat (by omega) (by omega)]
    have := xor_ones (a := 18446744073709551615 - turnS n) (by omega)
    simp only [Nat.reducePow, Nat.add_one_sub_one, Nat.reduceSub] at this
    rw [this]
    unfold u64; omega
  · have h1 : u64 (u64 n * 2) = ((turnS n : Nat) : Int) := by unfold u64 turnS; rw [if_neg hn]; omega
    have h2 : u64 (if n < 0 then (-1) else 0) = ((0 : Nat) : Int) := by rw [if_neg hn]; rfl
    have h3 := turnS_lt (n := n) h
    rw [h1, h2, xorW_nat (by omega) (by omega), Nat.xor_zero]
    exact u64_id (by omega) (by omega)
def sgnS (n : Int) : List Int := digS (turnS n)
theorem sgnS_len {n : Int} (h : okI n) : (sgnS n).length ≤ 10 := digS_len10 (turnS_lt h)
theorem PutSigned_t {l : List Int} {n : Int} (hl : l.length ≤ 100000000000000) (hn : okI n) : varint_PutSigned l n = some (l ++ sgnS n) := by
  unfold varint_PutSigned
  rw [turned_t hn, put_t hl (turnS_lt hn)]; rfl
end Go.Pf
end
section
/- Numbers out of bytes: what both texts compute, and back. -/
namespace Go.Pf
open Go.Pp

/-- a number that bytes begin with: of cap bytes at most, from byte i on, u so far -/
def rdS (cap : Nat) : Nat → Int → List Int → Int × Int × Int
  | i, _, [] => if cap ≤ i then (0, 0, 3) else (0, 0, 2)
  | i, u, x :: r =>
    if cap ≤ i then (0, 0, 3)
    else if i = 9 ∧ 1 < x % 128 then (0, 0, 3)
    else if x < 128 then (if x = 0 ∧ 0 < i then (0, 0, 4) else (u + x % 128 * 128 ^ i, (i : Int) + 1, 0))
    else rdS cap (i+1) (u + x % 128 * 128 ^ i) r
def okB (l : List Int) : Prop := ∀ a ∈ l, 0 ≤ a ∧ a ≤ 255
theorem bytes8 : ∀ a : Fin 256, u8 (clrW 8 (a.val : Int) 128) = (a.val : Int) % 128 ∧ (u8 (andW 8 (a.val : Int) 128) != 0) = decide (¬ (a.val : Int) < 128) := by decide +kernel
theorem clr8 {x : Int} (h : 0 ≤ x ∧ x ≤ 255) : u8 (clrW 8 x 128) = x % 128 ∧ (u8 (andW 8 x 128) != 0) = decide (¬ x < 128) := by
  have := bytes8 ⟨x.toNat, by omega⟩
  simpa [show ((x.toNat : Nat) : Int) = x by omega] using this
theorem pow128_nat (i : Nat) : ((128 : Int) ^ i) = ((2 ^ (7 * i) : Nat) : Int) := by
  rw [Nat.pow_mul]; simp
theorem pow_le9 : ∀ i : Fin 10, (2 ^ (7 * i.val) : Nat) ≤ 9223372036854775808 := by decide +kernel
theorem shl7 {x : Int} {i : Nat} (hi : i ≤ 9) : shlE x (w64 (7 * (i : Int))) 64 = x * 128 ^ i := by
  unfold shlE
  rw [w64_id (by omega) (by omega), show (7 * (i : Int)).toNat = 7 * i by omega, show min (7 * i) 64 = 7 * i by omega, pow128_nat]
  simp
theorem step_lt {x u : Int} {i : Nat} (hu : 0 ≤ u ∧ u < 128 ^ i) (hx : 0 ≤ x ∧ x < 128) : 0 ≤ u + x * 128 ^ i ∧ u + x * 128 ^ i < 128 ^ (i+1) := by
  have hp : (0 : Int) < 128 ^ i := Int.pow_pos (by omega)
  have h1 : 0 ≤ x * 128 ^ i := Int.mul_nonneg hx.1 (Int.le_of_lt hp)
  have h2 : x * 128 ^ i ≤ 127 * 128 ^ i := Int.mul_le_mul_of_nonneg_right (by omega) (Int.le_of_lt hp)
  rw [Int.pow_succ]
  omega
theorem fit64 {x u : Int} {i : Nat} (hu : 0 ≤ u ∧ u < 128 ^ i) (hx : 0 ≤ x ∧ x < 128) (hi : i ≤ 9) (h9 : ¬ (i = 9 ∧ 1 < x)) : x * 128 ^ i ≤ 9223372036854775808 ∧ u + x * 128 ^ i ≤ 18446744073709551615 ∧ (i ≤ 8 → u + x * 128 ^ i < 9223372036854775808) := by
  have hs := step_lt hu hx
  by_cases h : i = 9
  · subst h
    have hx1 : x ≤ 1 := by omega
    simp only [Int.reducePow] at *
    omega
  · have h8 := pow_le9 ⟨i+1, by omega⟩
    have e := pow128_nat (i+1)
    simp only [] at h8
    omega
theorem orW_add {u x : Int} {i : Nat} (hu : 0 ≤ u ∧ u < 128 ^ i) (hx : 0 ≤ x ∧ x < 128) (hi : i ≤ 9) (h9 : ¬ (i = 9 ∧ 1 < x)) : orW 64 u (x * 128 ^ i) = u + x * 128 ^ i := by
  have hf := fit64 hu hx hi h9
  have hp := pow128_nat i
  obtain ⟨a, rfl⟩ : ∃ a : Nat, u = (a : Int) := ⟨u.toNat, by omega⟩
  obtain ⟨b, rfl⟩ : ∃ b : Nat, x = (b : Int) := ⟨x.toNat, by omega⟩
  rw [hp] at hu hf ⊢
  rw [← Int.natCast_mul] at hf ⊢
  have ha : a < 2 ^ (7 * i) := by omega
  have h1 := Nat.shiftLeft_add_eq_or_of_lt ha b
  rw [Nat.shiftLeft_eq] at h1
  unfold orW
  rw [BitVec.toNat_or, BitVec.toNat_ofInt, BitVec.toNat_ofInt]
  have e1 : ((a : Int) % ((2 ^ 64 : Nat) : Int)).toNat = a := by omega
  have e2 : (((b * 2 ^ (7 * i) : Nat) : Int) % ((2 ^ 64 : Nat) : Int)).toNat = b * 2 ^ (7 * i) := by omega
  rw [e1, e2, Nat.or_comm, ← h1]
  omega
theorem rdS_cap {cap : Nat} : ∀ {i : Nat} {u : Int} {l : List Int}, cap ≤ i → rdS cap i u l = (0, 0, 3)
  | _, _, [], h => by simp [rdS, h]
  | _, _, _ :: _, h => by simp [rdS, h]
theorem getEnd {cap : Nat} {l : List Int} {i : Nat} {u : Int} (hi : (l.take cap).length = i) : rdS cap i u (l.drop i) = (if cap ≤ l.length then (0, 0, 3) else (0, 0, 2)) := by
  simp only [List.length_take] at hi
  by_cases h : cap ≤ l.length
  · rw [rdS_cap (by omega), if_pos h]
  · rw [List.drop_eq_nil_of_le (by omega), rdS, if_neg (by omega), if_neg h]
theorem get_t {l : List Int} {cap : Nat} (hb : okB l) (hl : l.length ≤ 4611686018427387904) (hc : cap ≤ 10) : varint_get l (cap : Int) = some (rdS cap 0 0 l) := by
  unfold varint_get
  have hh : headL l (if (cap : Int) < l.length then (cap : Int) else l.length) = some (l.take cap) := by
    by_cases h : (cap : Int) < l.length
    · rw [if_pos h, headL_ok (by omega) (by omega)]; rfl
    · rw [if_neg h, headL_ok (by omega) (by omega), List.take_of_length_le (by omega), List.take_of_length_le (by omega)]
  rw [hh, Option.bind_some]
  have htl : (l.take cap).length ≤ 10 := by simp; omega
  obtain ⟨o, ho, hq⟩ := forN_rule (body := varint_get.b1 (l.take cap)) (s := (0 : Int)) (n := (l.take cap).length) (fun j u => 0 ≤ u ∧ u < 128 ^ j ∧ rdS cap j u (l.drop j) = rdS cap 0 0 l)
    (fun o => (∃ s, o = .next s ∧ rdS cap 0 0 l = (if cap ≤ l.length then (0, 0, 3) else (0, 0, 2))) ∨ o = .ret (rdS cap 0 0 l)) (by omega) ⟨by omega, by simp, rfl⟩
    (fun j u hj hI => by
      obtain ⟨hu1, hu2, hI⟩ := hI
      have hjc : j < cap := by simp at hj; omega
      have hjl : j < l.length := by simp at hj; omega
      have hx := hb _ (List.getElem_mem hjl)
      have hlow : 0 ≤ l[j] % 128 ∧ l[j] % 128 < 128 := by omega
      have e1 : ixL (l.take cap) (j : Int) = some l[j] := ixL_of (by rw [List.getElem?_take_of_lt hjc]; exact List.getElem?_eq_getElem hjl)
      rw [List.drop_eq_getElem_cons hjl, rdS, if_neg (by omega)] at hI
      simp only [varint_get.b1, e1, Option.bind_some, clr8 hx, u64_id (n := l[j] % 128) (by omega) (by omega)]
      by_cases h9 : j = 9 ∧ 1 < l[j] % 128
      · rw [if_pos h9] at hI
        have e9 : ((j : Int) == 9) = true := by simp; omega
        refine ⟨.ret (0, 0, 3), by simp only [e9, h9.2, decide_true, ↓reduceIte], .inr (by rw [← hI])⟩
      · rw [if_neg h9] at hI
        have hj1 : (if ((j : Int) == 9) = true then if decide (1 < l[j] % 128) = true then some (.ret (0, 0, 3)) else varint_get.j1 u l[j] j else varint_get.j1 u l[j] j) = varint_get.j1 u l[j] j := by
          by_cases hj9 : j = 9
          · have : ¬ 1 < l[j] % 128 := fun h => h9 ⟨hj9, h⟩
            simp [this]
          · have : ((j : Int) == 9) = false := by simp; omega
            simp [this]
        rw [hj1]
        unfold varint_get.j1 varint_get.j2
        have hfit := fit64 (i := j) ⟨hu1, hu2⟩ hlow (by omega) h9
        have hst := step_lt (i := j) ⟨hu1, hu2⟩ hlow
        have hp : (0 : Int) ≤ l[j] % 128 * 128 ^ j := Int.mul_nonneg hlow.1 (Int.le_of_lt (Int.pow_pos (by omega)))
        have ev : u64 (orW 64 u (u64 (shlE (u64 (u8 (clrW 8 l[j] 128))) (w64 (7 * (j : Int))) 64))) = u + l[j] % 128 * 128 ^ j := by
          rw [(clr8 hx).1, u64_id (n := l[j] % 128) (by omega) (by omega), shl7 (by omega), u64_id (n := l[j] % 128 * 128 ^ j) (by omega) (by omega), orW_add ⟨hu1, hu2⟩ hlow (by omega) h9, u64_id (by omega) (by omega)]
        have ec : chkB (decide (¬ w64 (7 * (j : Int)) < 0)) () = some () := by unfold chkB; rw [if_pos]; rw [w64_id (by omega) (by omega)]; simp; omega
        rw [ec, Option.bind_some]
        simp only [ev, (clr8 hx).2, w64_id (n := (j : Int) + 1) (by omega) (by omega)]
        by_cases hs : l[j] < 128
        · rw [if_pos hs] at hI
          simp only [hs, not_true_eq_false, decide_false, Bool.false_eq_true, ↓reduceIte]
          by_cases hz : l[j] = 0 ∧ 0 < j
          · rw [if_pos hz] at hI
            have : (0 : Int) < j := by omega
            exact ⟨.ret (0, 0, 4), by simp [hz, this], .inr (by rw [← hI])⟩
          · rw [if_neg hz] at hI
            refine ⟨.ret (u + l[j] % 128 * 128 ^ j, (j : Int) + 1, 0), ?_, .inr (by rw [← hI])⟩
            by_cases hz0 : l[j] = 0
            · have : ¬ (0 : Int) < j := by omega
              simp [hz0]; omega
            · simp [hz0]
        · rw [if_neg hs] at hI
          simp only [hs, not_false_eq_true, decide_true, ↓reduceIte]
          exact ⟨_, rfl, hst.1, hst.2, hI⟩)
    (fun s hI => .inl ⟨s, rfl, by rw [← hI.2.2]; exact getEnd rfl⟩)
  rcases hq with ⟨s, rfl, hq⟩ | rfl
  · rw [aft_next ho, varint_get.k1, hq]
    by_cases h : cap ≤ l.length <;> simp [h]
  · rw [aft_ret ho]
end Go.Pf
end
section
/- Numbers out of bytes: there and back. -/
namespace Go.Pf
open Go.Pp

/-- an unsigned number as a signed one -/
def unS (u : Int) : Int := if u % 2 = 1 then -(u / 2) - 1 else u / 2
theorem unS_turn (n : Int) : unS (turnS n : Int) = n := by unfold unS turnS; split <;> split <;> omega
theorem turn_unS {u : Int} (h : 0 ≤ u) : (turnS (unS u) : Int) = u := by unfold unS turnS; split <;> split <;> omega
theorem andW1 (u : Nat) (h : u < 18446744073709551616) : andW 64 (u : Int) 1 = ((u % 2 : Nat) : Int) := by
  unfold andW
  rw [BitVec.toNat_and, BitVec.toNat_ofInt, BitVec.toNat_ofInt]
  have e1 : ((u : Int) % ((2 ^ 64 : Nat) : Int)).toNat = u := by omega
  have e2 : ((1 : Int) % ((2 ^ 64 : Nat) : Int)).toNat = 1 := by decide
  rw [e1, e2, Nat.and_one_is_mod]
theorem unS_t {u : Int} (h0 : 0 ≤ u) (h1 : u < 18446744073709551616) : w64 (xorW 64 (w64 (shrE u 1 64)) (w64 (0 - (w64 (u64 (andW 64 u 1)))))) = unS u := by
  obtain ⟨n, rfl⟩ : ∃ n : Nat, u = (n : Int) := ⟨u.toNat, by omega⟩
  have e1 : shrE (n : Int) 1 64 = ((n / 2 : Nat) : Int) := by
    unfold shrE
    rw [show (2 : Int) ^ min (Int.toNat 1) 64 = 2 from rfl, Int.fdiv_eq_ediv_of_nonneg _ (by omega)]; omega
  rw [e1, andW1 n (by omega), u64_id (by omega) (by omega), w64_id (n := ((n % 2 : Nat) : Int)) (by omega) (by omega), w64_id (n := ((n / 2 : Nat) : Int)) (by omega) (by omega), w64_id (n := 0 - ((n % 2 : Nat) : Int)) (by omega) (by omega)]
  unfold unS
  by_cases hm : n % 2 = 1
  · have : (n : Int) % 2 = 1 := by omega
    rw [hm, if_pos this]
    have hx : xorW 64 ((n / 2 : Nat) : Int) (0 - ((1 : Nat) : Int)) = ((18446744073709551615 - n / 2 : Nat) : Int) := by
      unfold xorW
      rw [BitVec.toNat_xor, BitVec.toNat_ofInt, BitVec.toNat_ofInt]
      have e1 : (((n / 2 : Nat) : Int) % ((2 ^ 64 : Nat) : Int)).toNat = n / 2 := by omega
      have e2 : ((0 - ((1 : Nat) : Int)) % ((2 ^ 64 : Nat) : Int)).toNat = 2 ^ 64 - 1 := by decide
      rw [e1, e2, xor_ones (by omega)]
    rw [hx]
    unfold w64
    simp only []
    split <;> omega
  · have h2 : n % 2 = 0 := by omega
    have : ¬ (n : Int) % 2 = 1 := by omega
    rw [h2, if_neg this]
    have hx : xorW 64 ((n / 2 : Nat) : Int) (0 - ((0 : Nat) : Int)) = ((n / 2 : Nat) : Int) := by
      rw [show (0 - ((0 : Nat) : Int)) = ((0 : Nat) : Int) from rfl, xorW_nat (by omega) (by omega), Nat.xor_zero]
    rw [hx, w64_id (by omega) (by omega)]; omega

theorem rdS_err {cap : Nat} : ∀ {l : List Int} {i : Nat} {u : Int}, (rdS cap i u l).2.2 = 0 ∨ rdS cap i u l = (0, 0, (rdS cap i u l).2.2) ∧ 2 ≤ (rdS cap i u l).2.2 ∧ (rdS cap i u l).2.2 ≤ 4
  | [], i, u => by unfold rdS; split <;> simp
  | x :: r, i, u => by
    unfold rdS
    split
    · simp
    split
    · simp
    split
    · split <;> simp
    · exact rdS_err
theorem digS_lt : ∀ (k n : Nat), (digS n).length ≤ k → n < 128 ^ k
  | 0, n, h => by have := digS_pos n; omega
  | k+1, n, h => by
    by_cases hn : n < 128
    · have : 128 ^ 1 ≤ 128 ^ (k+1) := Nat.pow_le_pow_right (by omega) (by omega)
      omega
    · rw [digS_big hn, List.length_cons] at h
      have := digS_lt k (n / 128) (by omega)
      rw [Nat.pow_succ]; omega
theorem rdS_inv {cap : Nat} (hc : cap ≤ 10) : ∀ {l : List Int} {i : Nat} {u v n : Int}, okB l → 0 ≤ u → u < 128 ^ i → rdS cap i u l = (v, n, 0) →
    ∃ m : Nat, v = u + (m : Int) * 128 ^ i ∧ n = ((i + (digS m).length : Nat) : Int) ∧ l = digS m ++ l.drop (digS m).length ∧ i + (digS m).length ≤ cap ∧ (i = 0 ∨ m ≠ 0) ∧ v ≤ 18446744073709551615
  | [], i, u, v, n, hb, h0, h1, h => by unfold rdS at h; split at h <;> simp at h
  | x :: r, i, u, v, n, hb, h0, h1, h => by
    have hx := hb x (by simp)
    unfold rdS at h
    split at h
    · simp at h
    split at h
    · simp at h
    rename_i hi h9
    have hlow : 0 ≤ x % 128 ∧ x % 128 < 128 := by omega
    split at h
    · rename_i hs
      split at h
      · simp at h
      · rename_i hz
        simp only [Prod.mk.injEq, and_true] at h
        have ex : x % 128 = x := by omega
        rw [ex] at h hlow h9
        have em : digS x.toNat = [x] := by rw [digS_small (by omega)]; simp; omega
        refine ⟨x.toNat, by rw [show ((x.toNat : Nat) : Int) = x by omega]; exact h.1.symm, by rw [em]; simp; omega, by rw [em]; simp, by rw [em]; simp; omega, by omega, ?_⟩
        rw [← h.1]; exact (fit64 ⟨h0, h1⟩ hlow (by omega) h9).2.1
    · rename_i hs
      have hst := step_lt (i := i) ⟨h0, h1⟩ hlow
      obtain ⟨m, e1, e2, e3, e4, e5, e6⟩ := rdS_inv hc (fun a ha => hb a (List.mem_cons_of_mem _ ha)) hst.1 hst.2 h
      have hm : m ≠ 0 := by omega
      have ed : digS ((x % 128).toNat + 128 * m) = x :: digS m := by
        rw [digS_big (by omega)]
        congr 1
        · omega
        · congr 1; omega
      refine ⟨(x % 128).toNat + 128 * m, ?_, ?_, ?_, ?_, .inr (by omega), e6⟩
      · rw [e1, Int.pow_succ]
        have : (((x % 128).toNat + 128 * m : Nat) : Int) = x % 128 + 128 * m := by omega
        rw [this, Int.add_mul, Int.add_assoc]
        congr 2
        rw [Int.mul_comm (128 ^ i) 128, ← Int.mul_assoc, Int.mul_comm (m : Int) 128]
      · rw [ed, e2, List.length_cons]; omega
      · rw [ed]; simp only [List.length_cons, List.drop_succ_cons, List.cons_append]; rw [← e3]
      · rw [ed, List.length_cons]; omega
theorem pow9 {i : Nat} (h : 9 ≤ i) : (18446744073709551616 : Int) ≤ 2 * 128 ^ i := by
  have : (128 : Nat) ^ 9 ≤ 128 ^ i := Nat.pow_le_pow_right (by omega) h
  have e : ((128 : Int) ^ i) = ((128 ^ i : Nat) : Int) := by simp
  rw [e]; omega
theorem rdS_dig {cap : Nat} : ∀ (m i : Nat) (u : Int) (r : List Int), i + (digS m).length ≤ cap → (i = 0 ∨ m ≠ 0) → (m : Int) * 128 ^ i < 18446744073709551616 →
    rdS cap i u (digS m ++ r) = (u + (m : Int) * 128 ^ i, ((i + (digS m).length : Nat) : Int), 0) := by
  intro m
  induction m using Nat.strongRecOn with
  | _ m ih =>
    intro i u r hc hz hlt
    by_cases hm : m < 128
    · rw [digS_small hm] at hc ⊢
      simp only [List.length_singleton] at hc
      simp only [List.singleton_append, rdS]
      rw [if_neg (by omega), if_neg, if_pos (by omega), if_neg (by omega), show (m : Int) % 128 = m by omega]
      · simp
      · rintro ⟨rfl, h⟩
        have := pow9 (i := 9) (by omega)
        have h2 : 2 * (128 : Int) ^ 9 ≤ m * 128 ^ 9 := Int.mul_le_mul_of_nonneg_right (by omega) (by decide)
        omega
    · have hp : (0 : Int) < 128 ^ i := Int.pow_pos (by omega)
      rw [digS_big hm] at hc ⊢
      simp only [List.length_cons] at hc
      simp only [List.cons_append, rdS]
      have e1 : ((m % 128 + 128 : Nat) : Int) % 128 = ((m % 128 : Nat) : Int) := by omega
      have hmul : (m : Int) * 128 ^ i = ((m % 128 : Nat) : Int) * 128 ^ i + ((m / 128 : Nat) : Int) * 128 ^ (i+1) := by
        rw [Int.pow_succ, Int.mul_comm (128 ^ i) 128, ← Int.mul_assoc, ← Int.add_mul]
        congr 1; omega
      have hnn : 0 ≤ ((m % 128 : Nat) : Int) * 128 ^ i := Int.mul_nonneg (by omega) (Int.le_of_lt hp)
      rw [e1, if_neg (by omega), if_neg, if_neg (by omega), ih (m / 128) (by omega) (i+1) _ r (by omega) (by omega) (by omega), hmul]
      · simp only [Prod.mk.injEq, and_true, List.length_cons]
        exact ⟨by omega, by omega⟩
      · rintro ⟨rfl, h⟩
        have := digS_pos (m / 128)
        have h2 : 2 * (128 : Int) ^ 9 ≤ m * 128 ^ 9 := Int.mul_le_mul_of_nonneg_right (by omega) (by decide)
        have := pow9 (i := 9) (by omega)
        omega
theorem rdS_cut {cap : Nat} : ∀ (m i k : Nat) (u : Int), i + (digS m).length ≤ cap → (i = 0 ∨ m ≠ 0) → (m : Int) * 128 ^ i < 18446744073709551616 → k < (digS m).length →
    rdS cap i u ((digS m).take k) = (0, 0, 2) := by
  intro m
  induction m using Nat.strongRecOn with
  | _ m ih =>
    intro i k u hc hz hlt hk
    cases k with
    | zero => have := digS_pos m; simp only [List.take_zero, rdS]; rw [if_neg (by omega)]
    | succ k =>
      by_cases hm : m < 128
      · rw [digS_small hm] at hk; simp at hk
      · have hp : (0 : Int) < 128 ^ i := Int.pow_pos (by omega)
        rw [digS_big hm] at hc hk ⊢
        simp only [List.length_cons] at hc hk
        simp only [List.take_succ_cons, rdS]
        have e1 : ((m % 128 + 128 : Nat) : Int) % 128 = ((m % 128 : Nat) : Int) := by omega
        have hmul : (m : Int) * 128 ^ i = ((m % 128 : Nat) : Int) * 128 ^ i + ((m / 128 : Nat) : Int) * 128 ^ (i+1) := by
          rw [Int.pow_succ, Int.mul_comm (128 ^ i) 128, ← Int.mul_assoc, ← Int.add_mul]
          congr 1; omega
        have hnn : 0 ≤ ((m % 128 : Nat) : Int) * 128 ^ i := Int.mul_nonneg (by omega) (Int.le_of_lt hp)
        rw [e1, if_neg (by omega), if_neg, if_neg (by omega), ih (m / 128) (by omega) (i+1) k _ (by omega) (by omega) (by omega) (by omega)]
        rintro ⟨rfl, h⟩
        have := digS_pos (m / 128)
        have h2 : 2 * (128 : Int) ^ 9 ≤ m * 128 ^ 9 := Int.mul_le_mul_of_nonneg_right (by omega) (by decide)
        have := pow9 (i := 9) (by omega)
        omega
theorem rdS_nonneg {cap : Nat} (hc : cap ≤ 10) {l : List Int} (hb : okB l) : 0 ≤ (rdS cap 0 0 l).1 ∧ (rdS cap 0 0 l).1 ≤ 18446744073709551615 ∧ (cap ≤ 9 → (rdS cap 0 0 l).1 ≤ 9223372036854775807) := by
  rcases rdS_err (cap := cap) (l := l) (i := 0) (u := 0) with h | h
  · obtain ⟨m, e1, e2, e3, e4, e5, e6⟩ := rdS_inv hc hb (by omega) (by simp) (Prod.ext rfl (Prod.ext rfl h) : rdS cap 0 0 l = ((rdS cap 0 0 l).1, (rdS cap 0 0 l).2.1, 0))
    simp only [Int.pow_zero, Int.mul_one] at e1
    refine ⟨by omega, e6, fun h9 => ?_⟩
    have := digS_lt 9 m (by omega)
    have h9 : (128 : Nat) ^ 9 = 9223372036854775808 := by decide
    omega
  · rw [h.1]; simp
theorem Get_t {l : List Int} (hb : okB l) (hl : l.length ≤ 4611686018427387904) : varint_Get l = some (rdS 9 0 0 l) := by
  unfold varint_Get
  have := rdS_nonneg (cap := 9) (by omega) hb
  rw [show (9 : Int) = ((9 : Nat) : Int) from rfl, get_t hb hl (by omega), Option.bind_some, w64_id (by omega) (by omega)]
theorem GetSigned_t {l : List Int} (hb : okB l) (hl : l.length ≤ 4611686018427387904) : varint_GetSigned l = some (unS (rdS 10 0 0 l).1, (rdS 10 0 0 l).2.1, (rdS 10 0 0 l).2.2) := by
  unfold varint_GetSigned
  have := rdS_nonneg (cap := 10) (by omega) hb
  rw [show (10 : Int) = ((10 : Nat) : Int) from rfl, get_t hb hl (by omega), Option.bind_some, unS_t (by omega) (by omega)]
end Go.Pf
end
section
/- A program's bytes, read back: numbers. -/
namespace Go.Pf
open Go.Pp

theorem rd_put {v : Int} (h : okI v) (h0 : 0 ≤ v) (r : List Int) : rdS 9 0 0 (putS v ++ r) = (v, ((putS v).length : Int), 0) := by
  obtain ⟨n, rfl⟩ : ∃ n : Nat, v = (n : Int) := ⟨v.toNat, by omega⟩
  unfold putS
  rw [if_neg (by omega), Int.toNat_natCast]
  have hn : n < 9223372036854775808 := by unfold okI at h; omega
  have hl : (digS n).length ≤ 9 := digS_len 8 n (Nat.lt_of_lt_of_le hn (by decide))
  have := rdS_dig (cap := 9) n 0 0 r (by omega) (.inl rfl) (by simp; omega)
  simpa using this
theorem rd_sgn {v : Int} (h : okI v) (r : List Int) : rdS 10 0 0 (sgnS v ++ r) = ((turnS v : Int), ((sgnS v).length : Int), 0) := by
  unfold sgnS
  have := rdS_dig (cap := 10) (turnS v) 0 0 r (by have := digS_len10 (turnS_lt h); omega) (.inl rfl) (by have := turnS_lt h; simp; omega)
  simpa using this
def bigL (l : List Int) : Prop := okB l ∧ l.length ≤ 4611686018427387904
theorem number_put {v : Int} (h : okI v) (h0 : 0 ≤ v) {r : List Int} (hb : bigL (putS v ++ r)) : code_reader_number ⟨putS v ++ r, 0⟩ = some (⟨r, 0⟩, v) := by
  unfold code_reader_number code_reader_take
  simp only [bne_self_eq_false, Bool.false_eq_true, ↓reduceIte]
  rw [Get_t hb.1 hb.2, rd_put h h0]
  simp only [Option.bind_some, bne_self_eq_false, Bool.false_eq_true, ↓reduceIte]
  rw [tailL_ok (by omega) (by rw [List.length_append]; omega), Int.toNat_natCast, List.drop_left]
  rfl
theorem signed_put {v : Int} (h : okI v) {r : List Int} (hb : bigL (sgnS v ++ r)) : code_reader_take ⟨sgnS v ++ r, 0⟩ varint_GetSigned = some (⟨r, 0⟩, v) := by
  unfold code_reader_take
  simp only [bne_self_eq_false, Bool.false_eq_true, ↓reduceIte]
  rw [GetSigned_t hb.1 hb.2, rd_sgn h]
  simp only [Option.bind_some, bne_self_eq_false, Bool.false_eq_true, ↓reduceIte, unS_turn]
  rw [tailL_ok (by omega) (by rw [List.length_append]; omega), Int.toNat_natCast, List.drop_left]
  rfl
theorem within_put {v most e : Int} (h : okI v) (h0 : 0 ≤ v) (hm : v ≤ most) {r : List Int} (hb : bigL (putS v ++ r)) : code_reader_within ⟨putS v ++ r, 0⟩ most e = some (⟨r, 0⟩, v) := by
  unfold code_reader_within
  rw [number_put h h0 hb, Option.bind_some]
  have : ¬ most < v := by omega
  simp [this, code_reader_within.j1]
theorem bigL.right {a b : List Int} (h : bigL (a ++ b)) : bigL b := ⟨fun x hx => h.1 x (List.mem_append.2 (.inr hx)), by have := h.2; simp at this; omega⟩
theorem putS_byte (n : Int) : okB (putS n) := by
  intro a ha; unfold putS at ha; split at ha
  · cases ha
  · exact digS_byte _ a ha
theorem sgnS_byte (n : Int) : okB (sgnS n) := fun a ha => digS_byte _ a ha
theorem okB_app {a b : List Int} (h1 : okB a) (h2 : okB b) : okB (a ++ b) := fun x hx => by
  rcases List.mem_append.1 hx with h | h
  · exact h1 x h
  · exact h2 x h
theorem okB_flat {α : Type} {l : List α} {f : α → List Int} (h : ∀ x ∈ l, okB (f x)) : okB (l.flatMap f) := fun a ha => by
  obtain ⟨x, hx, hax⟩ := List.mem_flatMap.1 ha; exact h x hx a hax
theorem flat_len {α : Type} {f : α → List Int} {K : Nat} : ∀ (l : List α), (∀ x ∈ l, (f x).length ≤ K) → (l.flatMap f).length ≤ l.length * K
  | [], _ => by simp
  | a :: l, h => by
    have h1 := flat_len l (fun y hy => h y (List.mem_cons_of_mem _ hy))
    have h2 := h a (by simp)
    rw [List.flatMap_cons, List.length_append, List.length_cons, Nat.add_mul]; omega
/-- several numbers laid down -/
theorem put_w {b : List Int} {bad : Bool} {l : List Int} (hl : l.length ≤ 1000) (hb : b.length ≤ 100000000) (ho : ∀ n ∈ l, okI n) :
    code_writer_put ⟨b, bad⟩ l = some ⟨b ++ l.flatMap putS, bad || l.any fun n => decide (n < 0)⟩ := by
  unfold code_writer_put
  obtain ⟨o, ho', hq⟩ := forN_rule (body := code_writer_put.b1 l) (s := (b, bad)) (n := l.length) (fun j s => s.1 = b ++ (l.take j).flatMap putS ∧ s.2 = (bad || (l.take j).any fun n => decide (n < 0)))
    (fun o => o = .next (b ++ l.flatMap putS, bad || l.any fun n => decide (n < 0))) (by omega) (by simp) (fun j s hj hI => by
      obtain ⟨h1, h2⟩ := hI
      have hm := List.getElem_mem hj
      have hlen : ((l.take j).flatMap putS).length ≤ 10000 := by
        have := flat_len (f := putS) (K := 10) (l.take j) (fun x hx => putS_len (ho x (List.mem_of_mem_take hx)))
        rw [List.length_take] at this; omega
      have h10 := putS_len (ho _ hm)
      have hL : varint_List [l[j]] = some (putS l[j]) := by
        rw [List_t (by simp) (fun n hn => by simp at hn; subst hn; exact ho _ hm)]; simp
      obtain ⟨x1, x2⟩ := s
      simp only at h1 h2
      subst h1
      have hj1 : ∀ c, code_writer_put.j1 (b ++ (l.take j).flatMap putS) l[j] c = some (.next (b ++ (l.take (j+1)).flatMap putS, c)) := fun c => by
        unfold code_writer_put.j1
        rw [hL, Option.bind_some, appL_ok (by rw [List.length_append]; omega), Option.bind_some, List.take_add_one, List.getElem?_eq_getElem hj, List.flatMap_append, ← List.append_assoc]
        simp
      simp only [code_writer_put.b1, ixL_lt hj, Option.bind_some, hj1]
      have hany : (l.take (j+1)).any (fun n => decide (n < 0)) = ((l.take j).any (fun n => decide (n < 0)) || decide (l[j] < 0)) := by
        rw [List.take_add_one, List.getElem?_eq_getElem hj, List.any_append]; simp
      cases x2
      · refine ⟨_, rfl, rfl, ?_⟩
        simp only [hany]
        rw [← Bool.or_assoc, ← h2]; simp
      · refine ⟨_, rfl, rfl, ?_⟩
        simp only [hany]
        rw [← Bool.or_assoc, ← h2]; simp)
    (fun s hI => by rw [List.take_length] at hI; obtain ⟨x, y⟩ := s; simp only at hI; rw [hI.1, hI.2])
  rw [aft_next (by rw [ho', hq])]
  rfl
end Go.Pf
end
section
/- An instruction's bytes. -/
namespace Go.Pf
open Go.Pp

def LS (op : Int) : List Int := sbytes (PS op)
theorem op_small : ∀ n : Fin 24, (LS (n.val : Int)).length ≤ 3 ∧ (∀ c ∈ LS (n.val : Int), c ∈ letters) ∧ (LS (n.val : Int)).Nodup := by decide +kernel
theorem LS_ok (op : Int) : (LS op).length ≤ 3 ∧ (∀ c ∈ LS op, c ∈ letters) ∧ (LS op).Nodup := by
  by_cases h : 0 ≤ op ∧ op < 24
  · obtain ⟨n, rfl⟩ := fin_of h; exact op_small n
  · unfold LS; rw [PS_out h]; exact ⟨by decide, by decide, by decide⟩
theorem has_LS {op c : Int} : hasS op c = true ↔ c ∈ LS op := by unfold hasS LS; simp
theorem PS_size (op : Int) : (ByteArray.size (PS op) : Int) = ((LS op).length : Int) := by unfold LS sbytes; simp
theorem ixS_LS {op : Int} {i : Nat} {c : Int} (h : (LS op)[i]? = some c) : ixS (PS op) (i : Int) = some c := by
  unfold LS sbytes at h
  unfold ixS
  rw [if_pos (by omega), Int.toNat_natCast]
  simp only [List.getElem?_map, Option.map_eq_some_iff] at h ⊢
  obtain ⟨b, hb, rfl⟩ := h
  refine ⟨b, ?_, rfl⟩
  rw [← hb]
  simp [getElem?_def, ByteArray.getElem_eq_getElem_data]
def encF (x : Ins) (c : Int) : List Int :=
  if c = 110 then sgnS x.N else if c = 76 then putS x.Args.length ++ x.Args.flatMap putS else if c = 68 then putS x.D else if c = 65 then putS x.A else if c = 66 then putS x.B else if c = 77 then putS x.M else putS x.N
def valF (x : Ins) (c : Int) : Prop :=
  if c = 110 then True else if c = 76 then ∀ a ∈ x.Args, 0 ≤ a else if c = 68 then 0 ≤ x.D else if c = 65 then 0 ≤ x.A else if c = 66 then 0 ≤ x.B else if c = 77 then 0 ≤ x.M else 0 ≤ x.N
def okX (x : Ins) : Prop := okI x.Op ∧ okI x.D ∧ okI x.A ∧ okI x.B ∧ okI x.N ∧ okI x.M ∧ x.Args.length ≤ 100 ∧ ∀ a ∈ x.Args, okI a
def encI (x : Ins) : List Int := putS x.Op ++ (LS x.Op).flatMap (encF x)
theorem one_w {b : List Int} {n : Int} (hb : b.length ≤ 100000000) (h : okI n) (h0 : 0 ≤ n) : code_writer_put ⟨b, false⟩ [n] = some ⟨b ++ putS n, false⟩ := by
  rw [put_w (by simp) hb (fun m hm => by simp at hm; subst hm; exact h)]
  have : ¬ n < 0 := by omega
  simp [this]
theorem letter_w {x : Ins} (hx : okX x) {i : Nat} {c : Int} (hi : (LS x.Op)[i]? = some c) (hv : valF x c) {b : List Int} (hb : b.length ≤ 90000000) :
    code_writer_ins.b1 x i (b, false) = some (.next (b ++ encF x c, false)) := by
  obtain ⟨ho, hd, ha, hB, hn, hm, hl, harg⟩ := hx
  have hc := (LS_ok x.Op).2.1 c (List.mem_of_getElem? hi)
  simp only [code_writer_ins.b1, parts_c, Option.bind_some, ixS_LS hi]
  have h10 := putS_len (n := (x.Args.length : Int)) (by unfold okI; omega)
  simp only [letters, List.mem_cons, List.not_mem_nil, or_false] at hc
  rcases hc with rfl | rfl | rfl | rfl | rfl | rfl | rfl
  · simp only [valF] at hv; simp at hv
    simp [one_w (b := b) (by omega) hd hv, encF]
  · simp only [valF] at hv; simp at hv
    simp [one_w (b := b) (by omega) ha hv, encF]
  · simp only [valF] at hv; simp at hv
    simp [one_w (b := b) (by omega) hB hv, encF]
  · simp only [valF] at hv; simp at hv
    simp [one_w (b := b) (by omega) hn hv, encF]
  · simp only [valF] at hv; simp at hv
    simp [one_w (b := b) (by omega) hm hv, encF]
  · simp [PutSigned_t (l := b) (by omega) hn, encF]
  · simp only [valF] at hv; simp at hv
    have e1 := one_w (b := b) (n := (x.Args.length : Int)) (by omega) (by unfold okI; omega) (by omega)
    have e2 := put_w (b := b ++ putS (x.Args.length : Int)) (bad := false) (l := x.Args) (by omega) (by simp; omega) harg
    have e3 : (x.Args.any fun n => decide (n < 0)) = false := by
      rw [← Bool.not_eq_true, List.any_eq_true]; rintro ⟨a, ha, h⟩; have := hv a ha; have := of_decide_eq_true h; omega
    simp [e1, e2, e3, encF]
end Go.Pf
end
section
/- An instruction's bytes: written whole. -/
namespace Go.Pf
open Go.Pp

def zI (b : Bool) (v : Int) : Int := if b then 0 else v
theorem zI_or (a b : Bool) (v : Int) : zI (a || b) v = if b then 0 else zI a v := by cases a <;> cases b <;> rfl
theorem bare_c {x : Ins} (hb : bareS x = true) : code_bare x = some true := by
  unfold code_bare
  rw [parts_c, Option.bind_some, PS_size]
  have hl := LS_ok x.Op
  obtain ⟨o, ho, hq⟩ := forN_rule (body := code_bare.b1 x) (s := (x.D, x.A, x.B, x.N, x.M, x.Args)) (n := (LS x.Op).length)
    (fun j s => s = (zI (((LS x.Op).take j).contains 68) x.D, zI (((LS x.Op).take j).contains 65) x.A, zI (((LS x.Op).take j).contains 66) x.B, zI (((LS x.Op).take j).contains 78 || ((LS x.Op).take j).contains 110) x.N, zI (((LS x.Op).take j).contains 77) x.M, if ((LS x.Op).take j).contains 76 then [] else x.Args))
    (fun o => ∃ s, o = .next s ∧ s = (zI (hasS x.Op 68) x.D, zI (hasS x.Op 65) x.A, zI (hasS x.Op 66) x.B, zI (hasS x.Op 78 || hasS x.Op 110) x.N, zI (hasS x.Op 77) x.M, if hasS x.Op 76 then [] else x.Args)) (by omega) (by simp [zI])
    (fun j s hj hI => by
      subst hI
      have hi := List.getElem?_eq_getElem hj
      have hc := hl.2.1 _ (List.getElem_mem hj)
      simp only [code_bare.b1, parts_c, Option.bind_some, ixS_LS hi]
      generalize (LS x.Op)[j] = c at hi hc
      have ht : ∀ d, ((LS x.Op).take (j+1)).contains d = (((LS x.Op).take j).contains d || c == d) := fun d => by
        rw [List.take_add_one, hi]
        rw [Bool.eq_iff_iff, List.contains_iff_mem, Bool.or_eq_true, List.contains_iff_mem, beq_iff_eq, List.mem_append]
        simp only [Option.toList, List.mem_singleton]
        exact ⟨fun h => h.elim .inl fun h => .inr h.symm, fun h => h.elim .inl fun h => .inr h.symm⟩
      simp only [ht]
      simp only [letters, List.mem_cons, List.not_mem_nil, or_false] at hc
      rcases hc with rfl | rfl | rfl | rfl | rfl | rfl | rfl <;> refine ⟨_, rfl, ?_⟩ <;> simp [zI])
    (fun s hI => ⟨s, rfl, by rw [List.take_length] at hI; exact hI⟩)
  obtain ⟨s, rfl, rfl⟩ := hq
  rw [aft_next ho]
  unfold bareS at hb
  simp only [Bool.and_eq_true, Bool.or_eq_true, beq_iff_eq] at hb
  obtain ⟨⟨⟨⟨⟨h1, h2⟩, h3⟩, h4⟩, h5⟩, h6⟩ := hb
  unfold code_bare.k1 zI
  have e1 : (if hasS x.Op 68 = true then (0 : Int) else x.D) = 0 := by split; rfl; rcases h1 with h | h; exact h; simp_all
  have e2 : (if hasS x.Op 65 = true then (0 : Int) else x.A) = 0 := by split; rfl; rcases h2 with h | h; exact h; simp_all
  have e3 : (if hasS x.Op 66 = true then (0 : Int) else x.B) = 0 := by split; rfl; rcases h3 with h | h; exact h; simp_all
  have e4 : (if (hasS x.Op 78 || hasS x.Op 110) = true then (0 : Int) else x.N) = 0 := by
    split
    · rfl
    · rename_i hn; rcases h4 with h | h
      · exact h
      · exact absurd (by simpa using h) hn
  have e5 : (if hasS x.Op 77 = true then (0 : Int) else x.M) = 0 := by split; rfl; rcases h5 with h | h; exact h; simp_all
  have e6 : (if hasS x.Op 76 = true then ([] : List Int) else x.Args).length = 0 := by
    split
    · rfl
    · rcases h6 with h | h
      · omega
      · simp_all
  simp only [e1, e2, e3, e4, e5, e6]
  rfl
theorem encF_len {x : Ins} (hx : okX x) (c : Int) : (encF x c).length ≤ 1010 := by
  obtain ⟨ho, hd, ha, hB, hn, hm, hl, harg⟩ := hx
  unfold encF
  have h10 := putS_len (n := (x.Args.length : Int)) (by unfold okI; omega)
  have h1 := flat_len (f := putS) (K := 10) x.Args (fun a h => putS_len (harg a h))
  have := sgnS_len hn; have := putS_len hd; have := putS_len ha; have := putS_len hB; have := putS_len hm; have := putS_len hn
  repeat' split
  all_goals first | omega | (rw [List.length_append]; omega)
theorem encI_len {x : Ins} (hx : okX x) : (encI x).length ≤ 4000 := by
  have h1 := flat_len (f := encF x) (K := 1010) (LS x.Op) (fun c _ => encF_len hx c)
  have h2 := (LS_ok x.Op).1
  have h3 := putS_len hx.1
  have : (LS x.Op).length * 1010 ≤ 3 * 1010 := Nat.mul_le_mul_right _ h2
  unfold encI; rw [List.length_append]; omega
theorem ins_w {x : Ins} (hx : okX x) (hb : bareS x = true) (ho : 0 ≤ x.Op) (hne : (ByteArray.toList (PS x.Op) == ByteArray.toList ({ data := #[] } : ByteArray)) = false) (hv : ∀ c ∈ LS x.Op, valF x c) {b : List Int} (hbl : b.length ≤ 80000000) :
    code_writer_ins ⟨b, false⟩ x = some ⟨b ++ encI x, false⟩ := by
  unfold code_writer_ins
  simp only [Bool.false_eq_true, ↓reduceIte, parts_c, Option.bind_some, hne, bare_c hb, Bool.not_true, code_writer_ins.j1]
  rw [one_w (by omega) hx.1 ho, Option.bind_some, PS_size]
  have h10 := putS_len hx.1
  obtain ⟨o, ho', hq⟩ := forN_rule (body := code_writer_ins.b1 x) (s := (b ++ putS x.Op, false)) (n := (LS x.Op).length) (fun j s => s = (b ++ putS x.Op ++ ((LS x.Op).take j).flatMap (encF x), false))
    (fun o => o = .next (b ++ putS x.Op ++ (LS x.Op).flatMap (encF x), false)) (by have := (LS_ok x.Op).1; omega) (by simp) (fun j s hj hI => by
      subst hI
      have hi := List.getElem?_eq_getElem hj
      have hlen := flat_len (f := encF x) (K := 1010) ((LS x.Op).take j) (fun c _ => encF_len hx c)
      have h3 := (LS_ok x.Op).1
      rw [List.length_take] at hlen
      have hmul : (min j (LS x.Op).length) * 1010 ≤ 3 * 1010 := Nat.mul_le_mul_right _ (by omega)
      rw [letter_w hx hi (hv _ (List.getElem_mem hj)) (by rw [List.length_append, List.length_append]; omega)]
      refine ⟨_, rfl, ?_⟩
      rw [List.take_add_one, hi, List.flatMap_append]; simp)
    (fun s hI => by rw [List.take_length] at hI; rw [hI])
  rw [aft_next (by rw [ho', hq])]
  unfold code_writer_ins.k1 encI
  simp
end Go.Pf
end
section
/- An instruction's bytes: read back. -/
namespace Go.Pf
open Go.Pp

theorem args_r : ∀ (l a : List Int) (r : List Int) (i : Nat), (∀ n ∈ l, okI n ∧ 0 ≤ n) → a.length + l.length ≤ 1000 → bigL (l.flatMap putS ++ r) →
    forF code_reader_ins.b2 l.length i (a, l.flatMap putS ++ r, 0) = some (.next (a ++ l, r, 0))
  | [], a, r, i, _, _, _ => by simp [forF]
  | n :: l, a, r, i, h, hl, hb => by
    have hn := h n (by simp)
    simp only [List.flatMap_cons, List.append_assoc] at hb ⊢
    have hb2 : code_reader_ins.b2 i (a, putS n ++ (l.flatMap putS ++ r), 0) = some (.next (a ++ [n], l.flatMap putS ++ r, 0)) := by
      simp only [code_reader_ins.b2]
      rw [number_put hn.1 hn.2 hb, Option.bind_some, appL_ok (by simp at hl ⊢; omega)]; rfl
    rw [List.length_cons]
    unfold forF
    rw [hb2]
    simp only []
    rw [args_r l (a ++ [n]) r (i+1) (fun m hm => h m (by simp [hm])) (by simp at hl ⊢; omega) hb.right]
    simp
def rdX (x : Ins) (cs : List Int) (b : List Int) : List Int × Int × Int × Int × Int × Int × List Int × Int :=
  (if cs.contains 76 then x.Args else [], if cs.contains 68 then x.D else 0, if cs.contains 65 then x.A else 0, if cs.contains 66 then x.B else 0, if cs.contains 78 || cs.contains 110 then x.N else 0, if cs.contains 77 then x.M else 0, b, 0)
theorem letter_rd {x : Ins} (hx : okX x) (h4 : x.Args.length ≤ 4) {i : Nat} {c : Int} (hi : (LS x.Op)[i]? = some c) (hv : valF x c) {r : List Int} (hb : bigL (encF x c ++ r)) :
    code_reader_ins.b1 (PS x.Op) i (rdX x ((LS x.Op).take i) (encF x c ++ r)) = some (.next (rdX x ((LS x.Op).take (i+1)) r)) := by
  obtain ⟨ho, hd, ha, hB, hn, hm, hl, harg⟩ := hx
  obtain ⟨_, hlet, hnd⟩ := LS_ok x.Op
  have hc := hlet c (List.mem_of_getElem? hi)
  have ht : ∀ d, ((LS x.Op).take (i+1)).contains d = (((LS x.Op).take i).contains d || c == d) := fun d => by
    rw [List.take_add_one, hi]
    rw [Bool.eq_iff_iff, List.contains_iff_mem, Bool.or_eq_true, List.contains_iff_mem, beq_iff_eq, List.mem_append]
    simp only [Option.toList, List.mem_singleton]
    exact ⟨fun h => h.elim .inl fun h => .inr h.symm, fun h => h.elim .inl fun h => .inr h.symm⟩
  have hnot : ((LS x.Op).take i).contains c = false := by
    rw [← Bool.not_eq_true, List.contains_iff_mem]
    intro hm'
    obtain ⟨m, hm1, hm2⟩ := List.mem_iff_getElem.1 hm'
    rw [List.length_take] at hm1
    rw [List.getElem_take] at hm2
    obtain ⟨hi1, hi2⟩ := List.getElem?_eq_some_iff.1 hi
    have := (List.getElem_inj hnd).1 (hm2.trans hi2.symm)
    omega
  unfold rdX
  simp only [ht]
  simp only [code_reader_ins.b1, ixS_LS hi, Option.bind_some]
  simp only [letters, List.mem_cons, List.not_mem_nil, or_false] at hc
  rcases hc with rfl | rfl | rfl | rfl | rfl | rfl | rfl
  · simp only [valF] at hv; simp at hv
    simp only [encF] at hb ⊢; simp at hb ⊢
    simp [number_put hd hv hb]
  · simp only [valF] at hv; simp at hv
    simp only [encF] at hb ⊢; simp at hb ⊢
    simp [number_put ha hv hb]
  · simp only [valF] at hv; simp at hv
    simp only [encF] at hb ⊢; simp at hb ⊢
    simp [number_put hB hv hb]
  · simp only [valF] at hv; simp at hv
    simp only [encF] at hb ⊢; simp at hb ⊢
    simp [number_put hn hv hb]
  · simp only [valF] at hv; simp at hv
    simp only [encF] at hb ⊢; simp at hb ⊢
    simp [number_put hm hv hb]
  · simp only [encF] at hb ⊢; simp at hb ⊢
    simp [signed_put hn hb]
  · simp only [valF] at hv; simp at hv
    have hb' : bigL (putS (x.Args.length : Int) ++ (x.Args.flatMap putS ++ r)) := by simpa [encF] using hb
    have e1 : encF x 76 ++ r = putS (x.Args.length : Int) ++ (x.Args.flatMap putS ++ r) := by simp [encF]
    rw [e1]
    rw [hnot]
    simp only [beq_self_eq_true, ↓reduceIte, show ((76 : Int) == 110) = false by decide, Bool.false_eq_true]
    rw [within_put (by unfold okI; omega) (by omega) (by omega) hb', Option.bind_some]
    have hf := args_r x.Args [] r 0 (fun n hn => ⟨harg n hn, hv n hn⟩) (by simp; omega) hb'.right
    have hF : forN (x.Args.length : Int) code_reader_ins.b2 ([], x.Args.flatMap putS ++ r, 0) = some (.next (x.Args, r, 0)) := by
      unfold forN; rw [if_pos (by omega), Int.toNat_natCast, hf]; simp
    rw [aft_next hF]
    simp [code_reader_ins.k2]
end Go.Pf
end
section
/- An instruction's bytes: read back whole. -/
namespace Go.Pf
open Go.Pp

theorem ins_rd {x : Ins} (hx : okX x) (h4 : x.Args.length ≤ 4) (hb : bareS x = true) (ho : 0 ≤ x.Op) (hne : (ByteArray.toList (PS x.Op) == ByteArray.toList ({ data := #[] } : ByteArray)) = false) (hv : ∀ c ∈ LS x.Op, valF x c) {r : List Int} (hbig : bigL (encI x ++ r)) :
    code_reader_ins ⟨encI x ++ r, 0⟩ = some (⟨r, 0⟩, x) := by
  have e0 : encI x ++ r = putS x.Op ++ ((LS x.Op).flatMap (encF x) ++ r) := by simp [encI]
  rw [e0] at hbig ⊢
  unfold code_reader_ins
  rw [number_put hx.1 ho hbig, Option.bind_some]
  simp only [parts_c, Option.bind_some, hne, Bool.false_eq_true, ↓reduceIte, code_reader_ins.j1]
  rw [PS_size]
  have hbig2 := hbig.right
  obtain ⟨o, ho', hq⟩ := forN_rule (body := code_reader_ins.b1 (PS x.Op)) (s := (([], 0, 0, 0, 0, 0, (LS x.Op).flatMap (encF x) ++ r, 0) : List Int × Int × Int × Int × Int × Int × List Int × Int)) (n := (LS x.Op).length) (fun j s => s = rdX x ((LS x.Op).take j) (((LS x.Op).drop j).flatMap (encF x) ++ r))
    (fun o => o = .next (rdX x (LS x.Op) r)) (by have := (LS_ok x.Op).1; omega) (by simp [rdX]) (fun j s hj hI => by
      subst hI
      have hi := List.getElem?_eq_getElem hj
      have hd : (LS x.Op).drop j = (LS x.Op)[j] :: (LS x.Op).drop (j+1) := List.drop_eq_getElem_cons hj
      have hsplit : (LS x.Op).flatMap (encF x) = ((LS x.Op).take j).flatMap (encF x) ++ ((LS x.Op).drop j).flatMap (encF x) := by rw [← List.flatMap_append, List.take_append_drop]
      rw [hsplit, List.append_assoc] at hbig2
      have hb3 := hbig2.right
      rw [hd, List.flatMap_cons, List.append_assoc] at hb3 ⊢
      exact ⟨_, letter_rd hx h4 hi (hv _ (List.getElem_mem hj)) hb3, rfl⟩)
    (fun s hI => by rw [List.take_length, List.drop_length] at hI; rw [hI]; simp)
  rw [aft_next (by rw [ho', hq])]
  unfold bareS at hb
  simp only [Bool.and_eq_true, Bool.or_eq_true, beq_iff_eq] at hb
  obtain ⟨⟨⟨⟨⟨h1, h2⟩, h3⟩, h4'⟩, h5⟩, h6⟩ := hb
  unfold code_reader_ins.k1 rdX
  have f (c : Int) : (LS x.Op).contains c = hasS x.Op c := rfl
  simp only [f]
  have e1 : (if hasS x.Op 68 = true then x.D else 0) = x.D := by split; rfl; rcases h1 with h | h; exact h.symm; simp_all
  have e2 : (if hasS x.Op 65 = true then x.A else 0) = x.A := by split; rfl; rcases h2 with h | h; exact h.symm; simp_all
  have e3 : (if hasS x.Op 66 = true then x.B else 0) = x.B := by split; rfl; rcases h3 with h | h; exact h.symm; simp_all
  have e4 : (if (hasS x.Op 78 || hasS x.Op 110) = true then x.N else 0) = x.N := by
    split
    · rfl
    · rename_i hn; rcases h4' with h | h
      · exact h.symm
      · exact absurd (by simpa using h) hn
  have e5 : (if hasS x.Op 77 = true then x.M else 0) = x.M := by split; rfl; rcases h5 with h | h; exact h.symm; simp_all
  have e6 : (if hasS x.Op 76 = true then x.Args else []) = x.Args := by
    split
    · rfl
    · rcases h6 with h | h
      · symm; apply List.length_eq_zero_iff.1; omega
      · simp_all
  simp only [e1, e2, e3, e4, e5, e6]
end Go.Pf
end
section
/- A function's bytes: written. -/
namespace Go.Pf
open Go.Pp

/-- an instruction that has bytes -/
structure goodI (x : Ins) : Prop where
  ok : okX x
  args : x.Args.length ≤ 4
  bare : bareS x = true
  op : 0 ≤ x.Op
  ne : (ByteArray.toList (PS x.Op) == ByteArray.toList ({ data := #[] } : ByteArray)) = false
  val : ∀ c ∈ LS x.Op, valF x c
def kb (k b : Int) : List Int := putS k ++ (if k == 2 then putS b else [])
def kbF (f : Func) (i : Nat) : List Int := match f.Kinds[i]?, f.Base[i]? with
  | some k, some b => kb k b
  | _, _ => []
def encB (b : Block) : List Int := putS b.Code.length ++ b.Code.flatMap encI
def encFn (f : Func) : List Int := putS f.Kinds.length ++ (List.range f.Kinds.length).flatMap (kbF f) ++ (putS f.Params ++ putS f.Result ++ putS f.Blocks.length) ++ f.Blocks.flatMap encB
structure goodF (f : Func) : Prop where
  kinds : f.Kinds.length ≤ 48
  base : f.Base.length = f.Kinds.length
  kok : ∀ (i : Nat) (h : i < f.Kinds.length) (h2 : i < f.Base.length), okI f.Base[i] ∧ ((f.Kinds[i] = 0 ∨ f.Kinds[i] = 1) ∧ f.Base[i] = -1 ∨ f.Kinds[i] = 2 ∧ 0 ≤ f.Base[i])
  params : 0 ≤ f.Params ∧ f.Params ≤ 48
  result : 0 ≤ f.Result ∧ f.Result ≤ 1
  blocks : f.Blocks.length ≤ 40
  code : ∀ b ∈ f.Blocks, b.Code.length ≤ 40 ∧ ∀ x ∈ b.Code, goodI x
theorem sm {n : Int} (h0 : 0 ≤ n) (h : n ≤ 1000) : okI n := by unfold okI; omega
theorem kb_len {k b : Int} (hk : okI k) (hb : okI b) : (kb k b).length ≤ 20 := by
  have := putS_len hk; have := putS_len hb
  unfold kb; split <;> simp <;> omega
theorem kbF_len {f : Func} (h : goodF f) (i : Nat) : (kbF f i).length ≤ 20 := by
  unfold kbF
  split
  · rename_i k b h1 h2
    obtain ⟨hi, rfl⟩ := List.getElem?_eq_some_iff.1 h1
    obtain ⟨hi2, rfl⟩ := List.getElem?_eq_some_iff.1 h2
    obtain ⟨h3, h4⟩ := h.kok i hi hi2
    exact kb_len (by rcases h4 with ⟨h5 | h5, _⟩ | ⟨h5, _⟩ <;> rw [h5] <;> exact sm (by decide) (by decide)) h3
  · simp
theorem kind_w {f : Func} (h : goodF f) {i : Nat} (hi : i < f.Kinds.length) {b : List Int} (hb : b.length ≤ 50000000) : code_writer_fn.b1 f i (b, false) = some (.next (b ++ kbF f i, false)) := by
  have hi2 : i < f.Base.length := by have := h.base; omega
  obtain ⟨h3, h4⟩ := h.kok i hi hi2
  simp only [code_writer_fn.b1, ixL_lt hi, ixL_lt hi2, Option.bind_some, kbF, List.getElem?_eq_getElem hi, List.getElem?_eq_getElem hi2, kb]
  generalize f.Kinds[i] = k at h4
  generalize f.Base[i] = v at h3 h4
  rcases h4 with ⟨h5 | h5, rfl⟩ | ⟨rfl, h6⟩
  · subst h5; simp [one_w (b := b) (n := 0) (by omega) (sm (by decide) (by decide)) (by decide)]
  · subst h5; simp [one_w (b := b) (n := 1) (by omega) (sm (by decide) (by decide)) (by decide)]
  · have e1 := one_w (b := b) (n := 2) (by omega) (sm (by decide) (by decide)) (by decide)
    have e2 := one_w (b := b ++ putS 2) (n := v) (by have := putS_len (n := 2) (sm (by decide) (by decide)); rw [List.length_append]; omega) h3 h6
    simp [e1, e2]
theorem encB_len {b : Block} (h : b.Code.length ≤ 40 ∧ ∀ x ∈ b.Code, goodI x) : (encB b).length ≤ 200000 := by
  have h1 := flat_len (f := encI) (K := 4000) b.Code (fun x hx => encI_len (h.2 x hx).ok)
  have h2 := putS_len (n := (b.Code.length : Int)) (sm (by omega) (by omega))
  have : b.Code.length * 4000 ≤ 40 * 4000 := Nat.mul_le_mul_right _ h.1
  unfold encB; rw [List.length_append]; omega
end Go.Pf
end
section
/- A function's bytes, and a program's: written. -/
namespace Go.Pf
open Go.Pp

/-- a loop that lays bytes down, beside a flag -/
theorem lay_loop {α R : Type} {l : List α} {body : Nat → (List Int × Bool) → Option (LR (List Int × Bool) R)} {g : α → List Int} {b : List Int} (K M : Nat) (hn : l.length ≤ 4611686018427387904)
    (hM : b.length + l.length * K ≤ M) (hg : ∀ x ∈ l, (g x).length ≤ K)
    (h : ∀ i x (s : List Int), l[i]? = some x → s.length + K ≤ M → body i (s, false) = some (.next (s ++ g x, false))) :
    forN (l.length : Int) body (b, false) = some (.next (b ++ l.flatMap g, false)) := by
  obtain ⟨o, ho, rfl⟩ := forN_rule (body := body) (s := (b, false)) (n := l.length) (fun j s => s = (b ++ (l.take j).flatMap g, false)) (fun o => o = .next (b ++ l.flatMap g, false)) hn (by simp) (fun j s hj hI => by
      subst hI
      have hi := List.getElem?_eq_getElem hj
      have hlen := flat_len (f := g) (K := K) (l.take j) (fun x hx => hg x (List.mem_of_mem_take hx))
      rw [List.length_take] at hlen
      have hm : (j + 1) * K ≤ l.length * K := Nat.mul_le_mul_right K hj
      have hm2 : (min j l.length) * K ≤ j * K := Nat.mul_le_mul_right K (by omega)
      rw [Nat.add_mul] at hm
      refine ⟨_, h j _ _ hi (by rw [List.length_append]; omega), ?_⟩
      simp only
      rw [List.take_add_one, hi, List.flatMap_append]; simp) (fun s hI => by rw [hI, List.take_length])
  exact ho
theorem fn_w {f : Func} (h : goodF f) {b : List Int} (hb : b.length ≤ 30000000) : code_writer_fn ⟨b, false⟩ f = some ⟨b ++ encFn f, false⟩ := by
  have hk := h.kinds; have hbl := h.blocks
  unfold code_writer_fn
  have e0 : ((f.Base.length : Int) != (f.Kinds.length : Int)) = false := by simp [h.base]
  simp only [e0, Bool.false_eq_true, ↓reduceIte]
  rw [one_w (by omega) (sm (by omega) (by omega)) (by omega), Option.bind_some]
  have p1 := putS_len (n := (f.Kinds.length : Int)) (sm (by omega) (by omega))
  have l1 := lay_loop (l := List.range f.Kinds.length) (body := code_writer_fn.b1 f) (g := kbF f) (b := b ++ putS (f.Kinds.length : Int)) 20 40000000 (by simp; omega) (by rw [List.length_range, List.length_append]; omega) (fun i _ => kbF_len h i) (fun i x s hi hs => by
    obtain ⟨hi1, rfl⟩ := List.getElem?_eq_some_iff.1 hi
    simp only [List.getElem_range]
    exact kind_w h (by simpa using hi1) (by omega))
  rw [List.length_range] at l1
  rw [aft_next l1]
  simp only [code_writer_fn.k1]
  have q1 := flat_len (f := kbF f) (K := 20) (List.range f.Kinds.length) (fun i _ => kbF_len h i)
  rw [List.length_range] at q1
  rw [put_w (by simp) (by rw [List.length_append, List.length_append]; omega) (fun n hn => by
    simp only [List.mem_cons, List.not_mem_nil, or_false] at hn
    rcases hn with rfl | rfl | rfl
    · exact sm h.params.1 (by have := h.params.2; omega)
    · exact sm h.result.1 (by have := h.result.2; omega)
    · exact sm (by omega) (by omega))]
  have e1 : ([f.Params, f.Result, (f.Blocks.length : Int)].any fun n => decide (n < 0)) = false := by
    have := h.params.1; have := h.result.1
    simp; omega
  simp only [e1, Bool.or_false, Option.bind_some]
  have p2 := putS_len (n := f.Params) (sm h.params.1 (by have := h.params.2; omega))
  have p3 := putS_len (n := f.Result) (sm h.result.1 (by have := h.result.2; omega))
  have p4 := putS_len (n := (f.Blocks.length : Int)) (sm (by omega) (by omega))
  have hmul : f.Kinds.length * 20 ≤ 48 * 20 := Nat.mul_le_mul_right _ hk
  have l2 := lay_loop (l := f.Blocks) (body := code_writer_fn.b2 f) (g := encB) (b := b ++ putS (f.Kinds.length : Int) ++ (List.range f.Kinds.length).flatMap (kbF f) ++ [f.Params, f.Result, (f.Blocks.length : Int)].flatMap putS) 200000 60000000 (by omega) (by
      have : f.Blocks.length * 200000 ≤ 40 * 200000 := Nat.mul_le_mul_right _ hbl
      simp only [List.length_append, List.flatMap_cons, List.flatMap_nil, List.length_nil]; omega) (fun x hx => encB_len (h.code x hx)) (fun i x s hi hs => by
    have hx := h.code x (List.mem_of_getElem? hi)
    simp only [code_writer_fn.b2, ixL_of hi, Option.bind_some]
    rw [one_w (by omega) (sm (by omega) (by omega)) (by omega), Option.bind_some]
    have p5 := putS_len (n := (x.Code.length : Int)) (sm (by omega) (by omega))
    have hmul2 : x.Code.length * 4000 ≤ 40 * 4000 := Nat.mul_le_mul_right _ hx.1
    have l3 := lay_loop (l := x.Code) (body := code_writer_fn.b3 x) (g := encI) (b := s ++ putS (x.Code.length : Int)) 4000 70000000 (by omega) (by rw [List.length_append]; omega) (fun y hy => encI_len (hx.2 y hy).ok) (fun j y s' hj hs' => by
      have hy := hx.2 y (List.mem_of_getElem? hj)
      simp only [code_writer_fn.b3, ixL_of hj, Option.bind_some]
      rw [ins_w hy.ok hy.bare hy.op hy.ne hy.val (by omega), Option.bind_some])
    rw [aft_next l3]
    simp [code_writer_fn.k3, encB])
  rw [aft_next l2]
  simp [code_writer_fn.k2, encFn]
end Go.Pf
end
section
/- A program's bytes: written. -/
namespace Go.Pf
open Go.Pp

theorem containsFunc {l : List Func} {f : Func → Option Bool} {p : Func → Bool} (hn : l.length ≤ 4611686018427387904) (h : ∀ x ∈ l, f x = some (p x)) : slices_ContainsFunc_Func l f = some (l.any p) := by
  obtain ⟨o, ho, hq⟩ := findL (l := l) (body := slices_IndexFunc_Func.b1 l f) (p := p) hn (fun j hj => by
    simp only [slices_IndexFunc_Func.b1, ixL_lt hj, Option.bind_some, h _ (List.getElem_mem hj)]; split <;> rfl)
  unfold slices_ContainsFunc_Func slices_IndexFunc_Func
  rcases anyL hq with ⟨rfl, h⟩ | ⟨i, rfl, h⟩
  · rw [aft_next ho, h]; rfl
  · rw [aft_ret ho, h]; simp
theorem counts_ok {f : Func} (h : goodF f) : code_counts f = some true := by
  have hk := h.kinds; have hb := h.blocks
  have e1 : ¬ (48 < (f.Kinds.length : Int)) := by omega
  have e2 : ¬ (40 < (f.Blocks.length : Int)) := by omega
  unfold code_counts code_counts.j1
  simp only [e1, e2, decide_false, Bool.false_eq_true, ↓reduceIte]
  rw [aft_next (forN_ok (by omega) (fun j hj => by
    obtain ⟨h1, h2⟩ := h.code _ (List.getElem_mem hj)
    have e3 : ¬ (40 < (f.Blocks[j].Code.length : Int)) := by omega
    simp only [code_counts.b1, ixL_lt hj, Option.bind_some, e3, decide_false, Bool.false_eq_true, ↓reduceIte]
    rw [containsIns (p := fun _ => false) (by omega) (fun x hx => by
      have := (h2 x hx).args
      unfold code_counts_1
      have e4 : ¬ (4 < (x.Args.length : Int)) := by omega
      simp [e4])]
    simp))]
  rfl
def encP (p : Prog) : List Int := putS p.Funcs.length ++ p.Funcs.flatMap encFn
structure goodP (p : Prog) : Prop where
  len : 1 ≤ p.Funcs.length ∧ p.Funcs.length ≤ 8
  fn : ∀ f ∈ p.Funcs, goodF f
theorem encI_len4 {x : Ins} (h : goodI x) : (encI x).length ≤ 200 := by
  obtain ⟨ho, hd, ha, hB, hn, hm, hl, harg⟩ := h.ok
  have h4 := h.args
  have hF : ∀ c ∈ LS x.Op, (encF x c).length ≤ 50 := fun c _ => by
    unfold encF
    have h10 := putS_len (n := (x.Args.length : Int)) (by unfold okI; omega)
    have h1 := flat_len (f := putS) (K := 10) x.Args (fun a h => putS_len (harg a h))
    have := sgnS_len hn; have := putS_len hd; have := putS_len ha; have := putS_len hB; have := putS_len hm; have := putS_len hn
    repeat' split
    all_goals first | omega | (rw [List.length_append]; omega)
  have h1 := flat_len (f := encF x) (K := 50) (LS x.Op) hF
  have h2 := (LS_ok x.Op).1
  have h3 := putS_len ho
  have : (LS x.Op).length * 50 ≤ 3 * 50 := Nat.mul_le_mul_right _ h2
  unfold encI; rw [List.length_append]; omega
theorem encB_len4 {b : Block} (h : b.Code.length ≤ 40 ∧ ∀ x ∈ b.Code, goodI x) : (encB b).length ≤ 10000 := by
  have h1 := flat_len (f := encI) (K := 200) b.Code (fun x hx => encI_len4 (h.2 x hx))
  have h2 := putS_len (n := (b.Code.length : Int)) (sm (by omega) (by omega))
  have : b.Code.length * 200 ≤ 40 * 200 := Nat.mul_le_mul_right _ h.1
  unfold encB; rw [List.length_append]; omega
theorem encFn_len {f : Func} (h : goodF f) : (encFn f).length ≤ 500000 := by
  have hk := h.kinds; have hb := h.blocks
  have p1 := putS_len (n := (f.Kinds.length : Int)) (sm (by omega) (by omega))
  have p2 := putS_len (n := f.Params) (sm h.params.1 (by have := h.params.2; omega))
  have p3 := putS_len (n := f.Result) (sm h.result.1 (by have := h.result.2; omega))
  have p4 := putS_len (n := (f.Blocks.length : Int)) (sm (by omega) (by omega))
  have q1 := flat_len (f := kbF f) (K := 20) (List.range f.Kinds.length) (fun i _ => kbF_len h i)
  have q2 := flat_len (f := encB) (K := 10000) f.Blocks (fun x hx => encB_len4 (h.code x hx))
  rw [List.length_range] at q1
  have hmul : f.Kinds.length * 20 ≤ 48 * 20 := Nat.mul_le_mul_right _ hk
  have hmul2 : f.Blocks.length * 10000 ≤ 40 * 10000 := Nat.mul_le_mul_right _ hb
  unfold encFn
  simp only [List.length_append]; omega
end Go.Pf
end
section
/- A program's bytes: written whole. -/
namespace Go.Pf
open Go.Pp
theorem encode_w {p : Prog} (h : goodP p) : code_Encode p = some (encP p, 0) := by
  obtain ⟨⟨h1, h8⟩, hf⟩ := h
  have e1 : ¬ ((p.Funcs.length : Int) < 1) := by omega
  have e2 : ¬ (8 < (p.Funcs.length : Int)) := by omega
  unfold code_Encode
  simp only [e1, e2, decide_false, Bool.false_eq_true, ↓reduceIte]
  rw [containsFunc (p := fun _ => false) (by omega) (fun f hm => by unfold code_Encode_1; rw [counts_ok (hf f hm)]; rfl)]
  have ea : (p.Funcs.any fun _ => false) = false := by simp
  simp only [ea, Option.bind_some, code_Encode.j1, Bool.false_eq_true, ↓reduceIte]
  have p1 := putS_len (n := (p.Funcs.length : Int)) (sm (by omega) (by omega))
  rw [one_w (by simp) (sm (by omega) (by omega)) (by omega), Option.bind_some, List.nil_append]
  obtain ⟨o, ho, hq⟩ := forN_rule (body := code_Encode.b1 p) (s := (false, putS (p.Funcs.length : Int))) (n := p.Funcs.length) (fun j s => s = (false, putS (p.Funcs.length : Int) ++ (p.Funcs.take j).flatMap encFn))
    (fun o => o = .next (false, encP p)) (by omega) (by simp) (fun j s hj hI => by
      subst hI
      have hi := List.getElem?_eq_getElem hj
      have hg := hf _ (List.getElem_mem hj)
      have hlen := flat_len (f := encFn) (K := 500000) (p.Funcs.take j) (fun x hx => encFn_len (hf x (List.mem_of_mem_take hx)))
      rw [List.length_take] at hlen
      have hmul : (min j p.Funcs.length) * 500000 ≤ 8 * 500000 := Nat.mul_le_mul_right _ (by omega)
      simp only [code_Encode.b1, ixL_lt hj, Option.bind_some]
      rw [fn_w hg (by rw [List.length_append]; omega), Option.bind_some]
      refine ⟨_, rfl, ?_⟩
      simp only
      rw [List.take_add_one, hi, List.flatMap_append]; simp)
    (fun s hI => by rw [hI, List.take_length]; rfl)
  rw [aft_next (by rw [ho, hq])]
  rfl
end Go.Pf
end
section
/- A function's bytes: read back. -/
namespace Go.Pf
open Go.Pp

/-- a loop that reads items off bytes -/
theorem read_loop {α R : Type} {body : Nat → (List α × List Int × Int) → Option (LR (List α × List Int × Int) R)} {g : α → List Int} {l : List α} {r : List Int} (hn : l.length ≤ 1000000) (hb : bigL (l.flatMap g ++ r))
    (h : ∀ (i : Nat) (x : α) (a : List α) (r' : List Int), l[i]? = some x → a.length + 1 ≤ l.length → bigL (g x ++ r') → body i (a, g x ++ r', 0) = some (.next (a ++ [x], r', 0))) :
    forN (l.length : Int) body ([], l.flatMap g ++ r, 0) = some (.next (l, r, 0)) := by
  obtain ⟨o, ho, rfl⟩ := forN_rule (body := body) (s := (([], l.flatMap g ++ r, 0) : List α × List Int × Int)) (n := l.length) (fun j s => s = (l.take j, (l.drop j).flatMap g ++ r, 0)) (fun o => o = .next (l, r, 0)) (by omega) (by simp) (fun j s hj hI => by
      subst hI
      have hi := List.getElem?_eq_getElem hj
      have hd : l.drop j = l[j] :: l.drop (j+1) := List.drop_eq_getElem_cons hj
      have hsplit : l.flatMap g = (l.take j).flatMap g ++ (l.drop j).flatMap g := by rw [← List.flatMap_append, List.take_append_drop]
      rw [hsplit, List.append_assoc] at hb
      have hb3 := hb.right
      rw [hd, List.flatMap_cons, List.append_assoc] at hb3 ⊢
      refine ⟨_, h j _ _ _ hi (by rw [List.length_take]; omega) hb3, ?_⟩
      simp only
      rw [List.take_add_one, hi]; rfl)
    (fun s hI => by rw [hI, List.take_length, List.drop_length]; simp)
  exact ho
theorem block_rd {b : Block} (h : b.Code.length ≤ 40 ∧ ∀ x ∈ b.Code, goodI x) {i : Nat} {a : List Block} {r : List Int} (ha : a.length ≤ 1000) (hb : bigL (encB b ++ r)) :
    code_reader_fn.b2 i (a, encB b ++ r, 0) = some (.next (a ++ [b], r, 0)) := by
  have e : encB b ++ r = putS (b.Code.length : Int) ++ (b.Code.flatMap encI ++ r) := by simp [encB]
  rw [e] at hb ⊢
  simp only [code_reader_fn.b2]
  rw [within_put (sm (by omega) (by omega)) (by omega) (by omega) hb, Option.bind_some]
  simp only
  rw [aft_next (read_loop (g := encI) (by omega) hb.right (fun j x a' r' hj hl hb' => by
    have hx := h.2 x (List.mem_of_getElem? hj)
    simp only [code_reader_fn.b3]
    rw [ins_rd hx.ok hx.args hx.bare hx.op hx.ne hx.val hb', Option.bind_some, appL_ok (by simp; omega)]; rfl))]
  unfold code_reader_fn.k3
  rw [appL_ok (by simp; omega)]; rfl
end Go.Pf
end
section
/- A function's bytes, and a program's: read back whole. -/
namespace Go.Pf
open Go.Pp
theorem kind_rd {f : Func} (h : goodF f) {i : Nat} (hi : i < f.Kinds.length) {r : List Int} (hb : bigL (kbF f i ++ r)) :
    code_reader_fn.b1 i (f.Kinds.take i, f.Base.take i, kbF f i ++ r, 0) = some (.next (f.Kinds.take (i+1), f.Base.take (i+1), r, 0)) := by
  have hk := h.kinds
  have hi2 : i < f.Base.length := by have := h.base; omega
  obtain ⟨h3, h4⟩ := h.kok i hi hi2
  have t1 : f.Kinds.take (i+1) = f.Kinds.take i ++ [f.Kinds[i]] := by rw [List.take_add_one, List.getElem?_eq_getElem hi]; rfl
  have t2 : f.Base.take (i+1) = f.Base.take i ++ [f.Base[i]] := by rw [List.take_add_one, List.getElem?_eq_getElem hi2]; rfl
  have hj : ∀ (w : code_reader × Int) (b : List Int) (v : Int), w.2 = f.Kinds[i] → v = f.Base[i] → code_reader_fn.j1 (f.Kinds.take i) (f.Base.take i) w b 0 v = some (.next (f.Kinds.take (i+1), f.Base.take (i+1), b, 0)) := fun w b v hw hv => by
    unfold code_reader_fn.j1
    rw [appL_ok (by simp; omega), Option.bind_some, appL_ok (by simp; omega), Option.bind_some, t1, t2, hw, hv]
  unfold kbF at hb ⊢
  rw [List.getElem?_eq_getElem hi, List.getElem?_eq_getElem hi2] at hb ⊢
  simp only [kb] at hb ⊢
  simp only [code_reader_fn.b1]
  by_cases h2 : f.Kinds[i] = 2
  · have hv : 0 ≤ f.Base[i] := by rcases h4 with ⟨h5 | h5, _⟩ | ⟨_, h6⟩ <;> omega
    have e : (f.Kinds[i] == 2) = true := by simp [h2]
    simp only [e, ↓reduceIte, List.append_assoc] at hb ⊢
    rw [within_put (by rw [h2]; exact sm (by decide) (by decide)) (by omega) (by omega) hb, Option.bind_some]
    simp only [e, ↓reduceIte]
    rw [number_put h3 hv hb.right, Option.bind_some]
    exact hj _ _ _ rfl rfl
  · have h5 : (f.Kinds[i] = 0 ∨ f.Kinds[i] = 1) ∧ f.Base[i] = -1 := by rcases h4 with h | h; exact h; exact absurd h.1 h2
    have e : (f.Kinds[i] == 2) = false := by simp [h2]
    simp only [e, Bool.false_eq_true, ↓reduceIte, List.append_nil] at hb ⊢
    rw [within_put (by rcases h5.1 with h | h <;> rw [h] <;> exact sm (by decide) (by decide)) (by omega) (by omega) hb, Option.bind_some]
    simp only [e, Bool.false_eq_true, ↓reduceIte]
    exact hj _ _ _ rfl h5.2.symm
end Go.Pf
end
section
/- A program's bytes: read back whole. -/
namespace Go.Pf
open Go.Pp
theorem fn_rd {f : Func} (h : goodF f) {r : List Int} (hb : bigL (encFn f ++ r)) : code_reader_fn ⟨encFn f ++ r, 0⟩ = some (⟨r, 0⟩, f) := by
  have hk := h.kinds; have hbl := h.blocks
  have e : encFn f ++ r = putS (f.Kinds.length : Int) ++ ((List.range f.Kinds.length).flatMap (kbF f) ++ (putS f.Params ++ (putS f.Result ++ (putS (f.Blocks.length : Int) ++ (f.Blocks.flatMap encB ++ r))))) := by simp [encFn]
  rw [e] at hb ⊢
  unfold code_reader_fn
  rw [within_put (sm (by omega) (by omega)) (by omega) (by omega) hb, Option.bind_some]
  simp only
  have hb1 := hb.right
  generalize hR : (putS f.Params ++ (putS f.Result ++ (putS (f.Blocks.length : Int) ++ (f.Blocks.flatMap encB ++ r)))) = R at hb1 ⊢
  obtain ⟨o, ho, hq⟩ := forN_rule (body := code_reader_fn.b1) (s := (([], [], (List.range f.Kinds.length).flatMap (kbF f) ++ R, 0) : List Int × List Int × List Int × Int)) (n := f.Kinds.length) (fun j s => s = (f.Kinds.take j, f.Base.take j, ((List.range f.Kinds.length).drop j).flatMap (kbF f) ++ R, 0))
    (fun o => o = .next (f.Kinds, f.Base, R, 0)) (by omega) (by simp) (fun j s hj hI => by
      subst hI
      have hj' : j < (List.range f.Kinds.length).length := by simpa using hj
      have hd : (List.range f.Kinds.length).drop j = j :: (List.range f.Kinds.length).drop (j+1) := by rw [List.drop_eq_getElem_cons hj']; simp
      have hsplit : (List.range f.Kinds.length).flatMap (kbF f) = ((List.range f.Kinds.length).take j).flatMap (kbF f) ++ ((List.range f.Kinds.length).drop j).flatMap (kbF f) := by rw [← List.flatMap_append, List.take_append_drop]
      rw [hsplit, List.append_assoc] at hb1
      have hb3 := hb1.right
      rw [hd, List.flatMap_cons, List.append_assoc] at hb3 ⊢
      exact ⟨_, kind_rd h hj hb3, rfl⟩)
    (fun s hI => by rw [hI, List.take_length, List.take_of_length_le (by have := h.base; omega), List.drop_of_length_le (by simp)]; simp)
  rw [aft_next (by rw [ho, hq])]
  subst hR
  have hb2 := hb1.right
  unfold code_reader_fn.k1
  simp only
  rw [number_put (sm h.params.1 (by have := h.params.2; omega)) h.params.1 hb2, Option.bind_some]
  simp only
  rw [number_put (sm h.result.1 (by have := h.result.2; omega)) h.result.1 hb2.right, Option.bind_some]
  simp only
  rw [within_put (sm (by omega) (by omega)) (by omega) (by omega) hb2.right.right, Option.bind_some]
  simp only
  rw [aft_next (read_loop (g := encB) (by omega) hb2.right.right.right (fun j x a r' hj hl hb' => block_rd (h.code x (List.mem_of_getElem? hj)) (by omega) hb'))]
  rfl
end Go.Pf
end
section
/- A program goes there and back as bytes. -/
namespace Go.Pf
open Go.Pp
theorem sgn_B (n : Int) : okB (sgnS n) := sgnS_byte n
theorem encF_B (x : Ins) (c : Int) : okB (encF x c) := by
  unfold encF
  repeat' split
  all_goals first | exact putS_byte _ | exact sgnS_byte _ | exact okB_app (putS_byte _) (okB_flat fun _ _ => putS_byte _)
theorem encFn_B (f : Func) : okB (encFn f) := by
  unfold encFn
  refine okB_app (okB_app (okB_app (putS_byte _) (okB_flat fun i _ => ?_)) (okB_app (okB_app (putS_byte _) (putS_byte _)) (putS_byte _))) (okB_flat fun b _ => okB_app (putS_byte _) (okB_flat fun x _ => okB_app (putS_byte _) (okB_flat fun c _ => encF_B x c)))
  unfold kbF
  split
  · unfold kb; split
    · exact okB_app (putS_byte _) (putS_byte _)
    · exact okB_app (putS_byte _) (fun a h => by cases h)
  · intro a h; cases h
theorem decode_r {p : Prog} (h : goodP p) : code_Decode (encP p) = some (p, 0) := by
  obtain ⟨⟨h1, h8⟩, hf⟩ := h
  have p1 := putS_len (n := (p.Funcs.length : Int)) (sm (by omega) (by omega))
  have hl := flat_len (f := encFn) (K := 500000) p.Funcs (fun x hx => encFn_len (hf x hx))
  have hmul : p.Funcs.length * 500000 ≤ 8 * 500000 := Nat.mul_le_mul_right _ h8
  have hb : bigL (putS (p.Funcs.length : Int) ++ (p.Funcs.flatMap encFn ++ [])) := ⟨by
    rw [List.append_nil]; exact okB_app (putS_byte _) (okB_flat fun f _ => encFn_B f), by simp only [List.length_append, List.length_nil]; omega⟩
  have e : encP p = putS (p.Funcs.length : Int) ++ (p.Funcs.flatMap encFn ++ []) := by simp [encP]
  rw [e]
  unfold code_Decode
  rw [within_put (sm (by omega) (by omega)) (by omega) (by omega) hb, Option.bind_some]
  have e0 : ((p.Funcs.length : Int) == 0) = false := by rw [← Bool.not_eq_true]; intro h; have := eq_of_beq h; omega
  simp only [e0, Bool.false_eq_true, ↓reduceIte, code_Decode.j1]
  rw [aft_next (read_loop (g := encFn) (by omega) hb.right (fun j x a r' hj hl hb' => by
    simp only [code_Decode.b1]
    rw [fn_rd (hf x (List.mem_of_getElem? hj)) hb', Option.bind_some, appL_ok (by simp; omega)]; rfl))]
  simp [code_Decode.k1, code_Decode.j2]
end Go.Pf
end
section
/- The same program is the same. -/
namespace Go.Pf
open Go.Pp
theorem sameIns {x : Ins} (h : x.Args.length ≤ 1000000) : portolanref03_SameIns x x = some true := by
  unfold portolanref03_SameIns
  simp [ints_same (l := x.Args) (by omega)]
theorem sameFn {f : Func} (h : goodF f) : portolanref03_SameFunc f f = some true := by
  have hk := h.kinds; have hb := h.blocks
  unfold portolanref03_SameFunc
  rw [ints_same (by omega), Option.bind_some, ints_same (by have := h.base; omega), Option.bind_some]
  simp only [↓reduceIte, bne_self_eq_false, Bool.false_eq_true, portolanref03_SameFunc.j1]
  rw [aft_next (forN_ok (by omega) (fun j hj => by
    obtain ⟨h1, h2⟩ := h.code _ (List.getElem_mem hj)
    simp only [portolanref03_SameFunc.b1, ixL_lt hj, Option.bind_some, bne_self_eq_false, Bool.false_eq_true, ↓reduceIte]
    rw [aft_next (forN_ok (by omega) (fun i hi => by
      have := (h2 _ (List.getElem_mem hi)).args
      simp only [portolanref03_SameFunc.b2, ixL_lt hi, Option.bind_some]
      rw [sameIns (by omega)]; rfl))]
    rfl))]
  rfl
theorem sameP {p : Prog} (h : goodP p) : portolanref03_Same p p = some true := by
  obtain ⟨⟨h1, h8⟩, hf⟩ := h
  unfold portolanref03_Same
  simp only [bne_self_eq_false, Bool.false_eq_true, ↓reduceIte]
  rw [aft_next (forN_ok (by omega) (fun j hj => by
    simp only [portolanref03_Same.b1, ixL_lt hj, Option.bind_some]
    rw [sameFn (hf _ (List.getElem_mem hj))]; rfl))]
  rfl
end Go.Pf
end
section
/- A program of right shape has bytes. -/
namespace Go.Pf
open Go.Pp
theorem l76 : ∀ n : Fin 24, hasS (n.val : Int) 76 = decide (n.val = 19) := by decide +kernel
theorem l78 : ∀ n : Fin 24, hasS (n.val : Int) 78 = true → n.val = 10 ∨ n.val = 11 ∨ n.val = 12 ∨ n.val = 13 ∨ n.val = 14 ∨ n.val = 15 ∨ n.val = 19 ∨ n.val = 21 ∨ n.val = 22 := by decide +kernel
theorem l77 : ∀ n : Fin 24, hasS (n.val : Int) 77 = true → n.val = 10 ∨ n.val = 22 := by decide +kernel
theorem ne_range {op : Int} (h : (ByteArray.toList (PS op) == ByteArray.toList ({ data := #[] } : ByteArray)) = false) : 0 ≤ op ∧ op < 24 := by
  by_cases h1 : 0 ≤ op ∧ op < 24
  · exact h1
  · rw [PS_out h1] at h; simp at h
/-- values that are whole numbers of 64 bits -/
def vI (x : Ins) : Prop := okI x.Op ∧ okI x.D ∧ okI x.A ∧ okI x.B ∧ okI x.N ∧ okI x.M ∧ ∀ a ∈ x.Args, okI a
theorem mem22 {x : Ins} (h : x.Op = 22) : x.N ∈ nextS x ∧ x.M ∈ nextS x := by
  unfold nextS
  rcases Int.lt_trichotomy x.N x.M with h1 | h1 | h1
  · have : x.N ≠ x.M := by omega
    simp [h, h1, this]
  · simp [h, h1]
  · have : x.N ≠ x.M := by omega
    have : ¬ x.N < x.M := by omega
    simp [h, *]
theorem mem21 {x : Ins} (h : x.Op = 21) : x.N ∈ nextS x := by unfold nextS; simp [h]
theorem good_of {p : Prog} {i : Nat} {f : Func} {x : Ins} (hf : p.Funcs[i]? = some f) (hfs : ∀ g ∈ p.Funcs, 0 ≤ g.Params ∧ g.Params ≤ 4) (hv : vI x) (h : insS p (i : Int) x = true) : goodI x := by
  unfold insS at h
  rw [ixL_of hf] at h
  simp only [Bool.and_eq_true, Bool.not_eq_true'] at h
  obtain ⟨_, hne, hb, hnum, hin⟩ := h
  obtain ⟨n, hn⟩ := fin_of (ne_range hne)
  obtain ⟨ho, hd, ha, hB, hN, hM, harg⟩ := hv
  have hnx := inF_next hin
  have hus : ∀ v ∈ touchS x, 0 ≤ v := fun v hv => by
    unfold inF at hin
    rw [Bool.and_eq_true] at hin
    have := List.all_eq_true.1 hin.1 v hv
    unfold wI at this
    exact (of_decide_eq_true this).1
  have h76 : hasS x.Op 76 = true → x.Op = 19 := fun h => by
    have := l76 n; rw [← hn, h] at this
    have := of_decide_eq_true this.symm
    rw [hn]; omega
  have hargs : x.Args.length ≤ 4 := by
    unfold bareS at hb
    simp only [Bool.and_eq_true, Bool.or_eq_true, beq_iff_eq] at hb
    rcases hb.2 with h | h
    · omega
    · have h19 := h76 h
      unfold numS at hnum
      simp only [h19, beq_self_eq_true, ↓reduceIte, Bool.and_eq_true] at hnum
      obtain ⟨h1, h2⟩ := hnum
      obtain ⟨g, hg, hgm⟩ := ixL_in h1
      rw [hg] at h2
      have := eq_of_beq h2
      have := (hfs g hgm).2
      omega
  refine ⟨⟨ho, hd, ha, hB, hN, hM, by omega, harg⟩, hargs, hb, by rw [hn]; omega, hne, fun c hc => ?_⟩
  have hc' : hasS x.Op c = true := has_LS.2 hc
  have hlet := (LS_ok x.Op).2.1 c hc
  simp only [letters, List.mem_cons, List.not_mem_nil, or_false] at hlet
  rcases hlet with rfl | rfl | rfl | rfl | rfl | rfl | rfl
  · simp only [valF]; simp
    exact hus _ (by unfold touchS setS; rw [hc']; simp)
  · simp only [valF]; simp
    exact hus _ (by unfold touchS useS; rw [hc']; simp)
  · simp only [valF]; simp
    exact hus _ (by unfold touchS useS; rw [hc']; simp)
  · simp only [valF]; simp
    have hh := l78 n (by rw [← hn]; exact hc')
    unfold numS wI at hnum
    rcases hh with h | h | h | h | h | h | h | h | h
    all_goals have e : x.Op = ((n.val : Nat) : Int) := hn
    all_goals rw [h] at e
    case _ => simp only [e] at hnum; simp at hnum; omega
    case _ => simp only [e] at hnum; simp at hnum; omega
    case _ => simp only [e] at hnum; simp at hnum; omega
    case _ => simp only [e] at hnum; simp at hnum; omega
    case _ => simp only [e] at hnum; simp at hnum; omega
    case _ => simp only [e] at hnum; simp at hnum; omega
    case _ => simp only [e] at hnum; simp at hnum; omega
    case _ => have := hnx _ (mem21 e); omega
    case _ => have := hnx _ (mem22 e).1; omega
  · simp only [valF]; simp
    have hh := l77 n (by rw [← hn]; exact hc')
    unfold numS wI at hnum
    rcases hh with h | h
    all_goals have e : x.Op = ((n.val : Nat) : Int) := hn
    all_goals rw [h] at e
    case _ => simp only [e] at hnum; simp at hnum; omega
    case _ => have := hnx _ (mem22 e).2; omega
  · simp [valF]
  · simp only [valF]; simp
    intro a ha'
    exact hus a (by unfold touchS useS; rw [hc']; simp [ha'])
end Go.Pf
end
section
/- The plain law of bytes. -/
namespace Go.Pf
open Go.Pp
def vF (f : Func) : Prop := (∀ a ∈ f.Base, okI a) ∧ ∀ b ∈ f.Blocks, ∀ x ∈ b.Code, vI x
theorem goodP_of {p : Prog} (hv : ∀ f ∈ p.Funcs, vF f) (hc : checkS p = true) : goodP p := by
  obtain ⟨hcp, hhd⟩ := check_parts hc
  have hfun : ∀ f ∈ p.Funcs, funcS f = true := fun f hf => by
    obtain ⟨i, hi, rfl⟩ := List.mem_iff_getElem.1 hf; exact (hcp i hi).1
  have hpar : ∀ g ∈ p.Funcs, 0 ≤ g.Params ∧ g.Params ≤ 4 := fun g hg => by
    have := hfun g hg
    unfold funcS at this
    simp only [Bool.and_eq_true] at this
    have h2 := this.2.1
    unfold wI at h2
    have h2 := of_decide_eq_true h2
    refine ⟨h2.1, ?_⟩
    split at h2 <;> omega
  refine ⟨?_, fun f hf => ?_⟩
  · unfold headS at hhd
    rw [Bool.and_eq_true] at hhd
    have := hhd.1
    unfold wI at this
    have := of_decide_eq_true this
    omega
  · obtain ⟨i, hi, rfl⟩ := List.mem_iff_getElem.1 hf
    obtain ⟨hfu, hco⟩ := hcp i hi
    obtain ⟨hvb, hvx⟩ := hv _ hf
    have hfb := func_blocks hfu
    have h0 := hfu
    unfold funcS at h0
    simp only [Bool.and_eq_true] at h0
    obtain ⟨hk, hp, _, hr, hb, hbl⟩ := h0
    unfold kindsS at hk
    simp only [Bool.and_eq_true, decide_eq_true_iff, List.all_eq_true, List.mem_range] at hk
    obtain ⟨⟨hk1, hk2⟩, hk3⟩ := hk
    unfold wI at hr hb
    have hr := of_decide_eq_true hr
    have hb := of_decide_eq_true hb
    refine ⟨hk1, hk2, fun j h1 h2 => ⟨hvb _ (List.getElem_mem h2), ?_⟩, ⟨(hpar _ hf).1, by have := (hpar _ hf).2; omega⟩, hr, by omega, fun b hbm => ?_⟩
    · have := hk3 j h1
      unfold entS at this
      rw [List.getElem?_eq_getElem h1, List.getElem?_eq_getElem h2] at this
      simp only [entB] at this
      by_cases h2k : p.Funcs[i].Kinds[j] = 2
      · right
        refine ⟨h2k, ?_⟩
        simp only [h2k, beq_self_eq_true, ↓reduceIte, Bool.and_eq_true] at this
        have h3 := this.1
        unfold wI at h3
        exact (of_decide_eq_true h3).1
      · left
        have e : (p.Funcs[i].Kinds[j] == 2) = false := by simp [h2k]
        simp only [e, Bool.false_eq_true, ↓reduceIte, Bool.and_eq_true, Bool.or_eq_true, beq_iff_eq] at this
        exact this
    · have hbS := List.all_eq_true.1 hbl b hbm
      unfold blockS at hbS
      rw [Bool.and_eq_true] at hbS
      have hw := hbS.1
      unfold wI at hw
      have hw := of_decide_eq_true hw
      refine ⟨by omega, fun x hx => good_of (List.getElem?_eq_getElem hi) hpar (hvx b hbm x hx) ?_⟩
      unfold codeS at hco
      exact List.all_eq_true.1 (List.all_eq_true.1 hco b hbm) x hx
theorem ShapeBytes_plain {p : Prog} (hp : okPr p) (hv : ∀ f ∈ p.Funcs, vF f) : portolanlaw04_ShapeBytes p = some true := by
  unfold portolanlaw04_ShapeBytes portolanlaw04_alive
  obtain ⟨b, hb⟩ := great_t hp
  simp only [Option.bind_some, ↓reduceIte, hb, check_s hp]
  cases b
  rotate_left
  · rfl
  simp only [Bool.false_eq_true, ↓reduceIte]
  cases hc : checkS p
  · rfl
  have hg := goodP_of hv hc
  simp only [↓reduceIte, show ((0 : Int) != 0) = false by decide]
  unfold portolanlaw04_ShapeBytes.j1
  simp only [Bool.false_eq_true, ↓reduceIte]
  rw [encode_w hg, Option.bind_some]
  simp only
  rw [decode_r hg, Option.bind_some]
  simp only [beq_self_eq_true, ↓reduceIte]
  rw [sameP hg, Option.bind_some]
  simp only [↓reduceIte, check_s hp, hc, Option.bind_some]
  rfl
end Go.Pf
end
