/- The plain law, part 1 -/
import Derived.Test.YtcbbchfhfacbdaaDoorU1
set_option linter.all false
section
/- Plain lemmas on the plain words: loops over lists, rows, whole numbers of 64 bits. -/
namespace Go.Pp
variable {α S R T : Type}

theorem forF_rule {body : Nat → S → Option (LR S R)} (I : Nat → S → Prop) (Q : LR S R → Prop) :
    ∀ (k i : Nat) (s : S), I i s →
    (∀ j s, i ≤ j → j < i + k → I j s → ∃ o, body j s = some o ∧ (match o with | .next s' => I (j+1) s' | .brk s' => Q (.brk s') | .ret r => Q (.ret r))) →
    (∀ s, I (i+k) s → Q (.next s)) → ∃ o, forF body k i s = some o ∧ Q o
  | 0, i, s, hI, _, he => ⟨.next s, rfl, he s hI⟩
  | k+1, i, s, hI, hs, he => by
    obtain ⟨o, ho, hm⟩ := hs i s (Nat.le_refl _) (by omega) hI
    unfold forF; rw [ho]
    cases o with
    | next s' => exact forF_rule I Q k (i+1) s' hm (fun j s h1 h2 => hs j s (by omega) (by omega)) (fun s h => he s (by rw [show i + (k+1) = i+1+k by omega]; exact h))
    | brk s' => exact ⟨_, rfl, hm⟩
    | ret r => exact ⟨_, rfl, hm⟩
theorem forN_rule {body : Nat → S → Option (LR S R)} (I : Nat → S → Prop) (Q : LR S R → Prop) {n : Nat} {s : S} (hn : n ≤ 4611686018427387904) (h0 : I 0 s)
    (hs : ∀ j s, j < n → I j s → ∃ o, body j s = some o ∧ (match o with | .next s' => I (j+1) s' | .brk s' => Q (.brk s') | .ret r => Q (.ret r)))
    (he : ∀ s, I n s → Q (.next s)) : ∃ o, forN (n : Int) body s = some o ∧ Q o := by
  unfold forN
  rw [if_pos (by omega), Int.toNat_natCast]
  exact forF_rule I Q n 0 s h0 (fun j s _ h => hs j s (by omega)) (by simpa using he)
theorem forN_zero {body : Nat → S → Option (LR S R)} {E : Int} (s : S) (h : E ≤ 0) : forN E body s = some (.next s) := by
  unfold forN; rw [if_pos (by omega), show E.toNat = 0 by omega]; rfl
theorem whileF_rule {body : S → Option (LR S R)} (I : S → Prop) (μ : S → Nat) (Q : LR S R → Prop)
    (hs : ∀ s, I s → ∃ o, body s = some o ∧ (match o with | .next s' => I s' ∧ μ s' < μ s | .brk s' => Q (.brk s') | .ret r => Q (.ret r))) :
    ∀ (k : Nat) (s : S), I s → μ s < k → ∃ o, whileF body k s = some o ∧ Q o
  | 0, s, _, h => by omega
  | k+1, s, hI, hk => by
    obtain ⟨o, ho, hm⟩ := hs s hI
    unfold whileF; rw [ho]
    cases o with
    | next s' => exact whileF_rule I μ Q hs k s' hm.1 (by have := hm.2; omega)
    | brk s' => exact ⟨_, rfl, hm⟩
    | ret r => exact ⟨_, rfl, hm⟩

/-- the first place that answers -/
def firstI (g : Nat → Option R) : Nat → Nat → Option R
  | 0, _ => none
  | k+1, i => match g i with | some r => some r | none => firstI g k (i+1)
def lrO : Option R → LR Unit R
  | none => .next ()
  | some r => .ret r
theorem forF_first {body : Nat → Unit → Option (LR Unit R)} {g : Nat → Option R} : ∀ (k i : Nat),
    (∀ j, i ≤ j → j < i + k → (∀ m, i ≤ m → m < j → g m = none) → body j () = some (lrO (g j))) → forF body k i () = some (lrO (firstI g k i))
  | 0, i, _ => rfl
  | k+1, i, h => by
    have h1 := h i (Nat.le_refl _) (by omega) (fun m _ _ => by omega)
    unfold forF firstI
    rw [h1]
    cases hg : g i with
    | some r => simp [lrO]
    | none =>
      simp only [lrO]
      exact forF_first k (i+1) (fun j h1 h2 h3 => h j (by omega) (by omega) (fun m hm1 hm2 => by
        by_cases hmi : m = i
        · subst hmi; exact hg
        · exact h3 m (by omega) hm2))
theorem firstI_none {g : Nat → Option R} : ∀ {k i : Nat}, firstI g k i = none ↔ ∀ j, i ≤ j → j < i + k → g j = none
  | 0, i => by simp [firstI]; omega
  | k+1, i => by
    unfold firstI
    cases hg : g i with
    | some r =>
      constructor
      · intro h; cases h
      · intro h; have := h i (by omega) (by omega); rw [hg] at this; cases this
    | none =>
      simp only [firstI_none (k := k)]
      constructor
      · intro h j h1 h2
        by_cases hj : j = i
        · subst hj; exact hg
        · exact h j (by omega) (by omega)
      · intro h j h1 h2; exact h j (by omega) (by omega)
/-- a loop that only looks, and may answer no -/
theorem forN_allI {body : Nat → Unit → Option (LR Unit R)} {p : Nat → Bool} {r : R} {n : Nat} (hn : n ≤ 4611686018427387904)
    (h : ∀ j, j < n → (∀ m, m < j → p m = true) → body j () = some (if p j then .next () else .ret r)) :
    forN (n : Int) body () = some (if (List.range n).all p then .next () else .ret r) := by
  obtain ⟨o, ho, hq⟩ := forN_rule (body := body) (s := ()) (n := n) (fun j _ => ∀ m, m < j → p m = true) (fun o => o = (if (List.range n).all p then .next () else .ret r)) hn (fun _ h => by omega)
    (fun j s hj hI => by
      refine ⟨_, h j hj hI, ?_⟩
      cases hp : p j
      · simp only [Bool.false_eq_true, ↓reduceIte]
        rw [if_neg]
        intro ha
        have := List.all_eq_true.1 ha j (by simpa using hj)
        rw [hp] at this; cases this
      · simp only [↓reduceIte]
        intro m hm
        by_cases hmj : m = j
        · subst hmj; exact hp
        · exact hI m (by omega))
    (fun s hI => by
      rw [if_pos]
      exact List.all_eq_true.2 fun x hx => hI x (by simpa using hx))
  rw [ho, hq]
theorem all_range {l : List α} {p : α → Bool} {q : Nat → Bool} (h : ∀ i x, l[i]? = some x → q i = p x) : (List.range l.length).all q = l.all p := by
  rw [Bool.eq_iff_iff, List.all_eq_true, List.all_eq_true]
  constructor
  · intro H x hx
    obtain ⟨i, hi, rfl⟩ := List.mem_iff_getElem.1 hx
    rw [← h i _ (List.getElem?_eq_getElem hi)]
    exact H i (by simpa using hi)
  · intro H i hi
    have hi' : i < l.length := by simpa using hi
    rw [h i _ (List.getElem?_eq_getElem hi')]
    exact H _ (List.getElem_mem hi')
theorem ixL_of {l : List α} {i : Nat} {x : α} (h : l[i]? = some x) : ixL l (i : Int) = some x := by
  unfold ixL; rw [if_pos (by omega), Int.toNat_natCast]; exact h
theorem ixL_lt {l : List α} {i : Nat} (h : i < l.length) : ixL l (i : Int) = some l[i] := ixL_of (List.getElem?_eq_getElem h)
theorem ixL_int {l : List α} {i : Int} (h0 : 0 ≤ i) (h : i < l.length) : ixL l i = some (l[i.toNat]'(by omega)) := by
  unfold ixL; rw [if_pos h0]; exact List.getElem?_eq_getElem (by omega)
theorem forN_all {l : List α} {body : Nat → Unit → Option (LR Unit R)} {p : α → Bool} {r : R} (hn : l.length ≤ 4611686018427387904)
    (h : ∀ i x, l[i]? = some x → body i () = some (if p x then .next () else .ret r)) :
    forN (l.length : Int) body () = some (if l.all p then .next () else .ret r) := by
  rw [← all_range (q := fun i => match l[i]? with | some x => p x | none => true) (fun i x hx => by simp [hx])]
  refine forN_allI hn fun j hj _ => ?_
  rw [h j _ (List.getElem?_eq_getElem hj)]
  simp [List.getElem?_eq_getElem hj]
theorem forN_any {l : List α} {body : Nat → Unit → Option (LR Unit R)} {p : α → Bool} {r : R} (hn : l.length ≤ 4611686018427387904)
    (h : ∀ i x, l[i]? = some x → body i () = some (if p x then .ret r else .next ())) :
    forN (l.length : Int) body () = some (if l.any p then .ret r else .next ()) := by
  rw [forN_all (p := fun x => !p x) (r := r) hn (fun i x hx => by rw [h i x hx]; cases p x <;> rfl)]
  rw [← List.not_any_eq_all_not]
  cases l.any p <;> rfl
/-- a loop that goes on to the end -/
theorem forN_fold {l : List α} {body : Nat → S → Option (LR S R)} {f : S → α → S} (P : Nat → S → Prop) {s : S} (hn : l.length ≤ 4611686018427387904) (h0 : P 0 s)
    (h : ∀ i x s, l[i]? = some x → P i s → body i s = some (.next (f s x)) ∧ P (i+1) (f s x)) :
    forN (l.length : Int) body s = some (.next (l.foldl f s)) ∧ P l.length (l.foldl f s) := by
  obtain ⟨o, ho, hq⟩ := forN_rule (body := body) (s := s) (n := l.length) (fun j s' => s' = (l.take j).foldl f s ∧ P j s') (fun o => o = .next (l.foldl f s) ∧ P l.length (l.foldl f s)) hn ⟨by simp, h0⟩
    (fun j s' hj hI => by
      have hx := List.getElem?_eq_getElem hj
      obtain ⟨h1, h2⟩ := h j _ s' hx hI.2
      refine ⟨_, h1, ?_, h2⟩
      rw [List.take_add_one, hx, List.foldl_append, ← hI.1]; rfl)
    (fun s' hI => by rw [List.take_length] at hI; exact ⟨by rw [hI.1], by rw [← hI.1]; exact hI.2⟩)
  exact ⟨by rw [ho, hq.1], hq.2⟩
/-- a loop that appends -/
theorem forN_app {l : List α} {β : Type} {body : Nat → List β → Option (LR (List β) R)} {g : α → List β} {s : List β} (K M : Nat) (hn : l.length ≤ 4611686018427387904)
    (hM : s.length + l.length * K ≤ M) (hg : ∀ x ∈ l, (g x).length ≤ K)
    (h : ∀ i x (s' : List β), l[i]? = some x → s'.length + K ≤ M → body i s' = some (.next (s' ++ g x))) :
    forN (l.length : Int) body s = some (.next (s ++ l.flatMap g)) ∧ (s ++ l.flatMap g).length ≤ s.length + l.length * K := by
  have := forN_fold (body := body) (f := fun s x => s ++ g x) (s := s) (fun i s' => s'.length ≤ s.length + i * K ∧ i ≤ l.length) hn ⟨by omega, by omega⟩ (fun i x s' hx hP => by
    have hi := (List.getElem?_eq_some_iff.1 hx).1
    have hm : i * K + K ≤ l.length * K := by have := Nat.mul_le_mul_right K (show i + 1 ≤ l.length from hi); rw [Nat.add_mul] at this; omega
    have hgx := hg x (List.mem_of_getElem? hx)
    refine ⟨h i x s' hx (by omega), ?_, by omega⟩
    rw [List.length_append, Nat.add_mul]; omega)
  have he : l.foldl (fun s x => s ++ g x) s = s ++ l.flatMap g := by
    clear this hM h hn hg
    induction l generalizing s with
    | nil => simp
    | cons a l ih => simp [ih]
  rw [he] at this
  exact ⟨this.1, this.2.1⟩
theorem appL_ok {b : Nat} {l r : List α} (h : (l.length + r.length) * b ≤ 140737488355328) : appL b l r = some (l ++ r) := by unfold appL; rw [if_pos h]
theorem tailL_ok {l : List α} {lo : Int} (h0 : 0 ≤ lo) (h : lo ≤ l.length) : tailL l lo = some (l.drop lo.toNat) := by unfold tailL; rw [if_pos ⟨h0, h⟩]
theorem headL_ok {l : List α} {lo : Int} (h0 : 0 ≤ lo) (h : lo ≤ l.length) : headL l lo = some (l.take lo.toNat) := by unfold headL; rw [if_pos ⟨h0, h⟩]
theorem cutL_ok {l : List α} {lo hi : Int} (h0 : 0 ≤ lo) (h1 : lo ≤ hi) (h2 : hi ≤ l.length) : cutL l lo hi = some ((l.drop lo.toNat).take (hi.toNat - lo.toNat)) := by unfold cutL; rw [if_pos ⟨h0, h1, h2⟩]
theorem w64_id {n : Int} (h1 : -9223372036854775808 ≤ n) (h2 : n ≤ 9223372036854775807) : w64 n = n := by unfold w64; simp only []; split <;> omega
theorem u64_id {n : Int} (h1 : 0 ≤ n) (h2 : n ≤ 18446744073709551615) : u64 n = n := by unfold u64; omega
theorem u8_id {n : Int} (h1 : 0 ≤ n) (h2 : n ≤ 255) : u8 n = n := by unfold u8; omega
theorem iteS {c : Prop} [Decidable c] {a b : α} : (if c then some a else some b) = some (if c then a else b) := by by_cases h : c <;> simp [h]
theorem aft_next {o : Option (LR S R)} {k : S → Option T} {r : R → Option T} {s : S} (h : o = some (.next s)) : aft o k r = k s := by rw [h]; rfl
theorem aft_brk {o : Option (LR S R)} {k : S → Option T} {r : R → Option T} {s : S} (h : o = some (.brk s)) : aft o k r = k s := by rw [h]; rfl
theorem aft_ret {o : Option (LR S R)} {k : S → Option T} {r : R → Option T} {s : R} (h : o = some (.ret s)) : aft o k r = r s := by rw [h]; rfl
theorem aft_if {c : Prop} [Decidable c] {o : Option (LR S R)} {k : S → Option T} {r : R → Option T} {s : S} {x : R} (h : o = some (if c then .next s else .ret x)) : aft o k r = if c then k s else r x := by
  rw [h]; by_cases hc : c <;> simp [hc, aft]
theorem aft_if2 {c : Prop} [Decidable c] {o : Option (LR S R)} {k : S → Option T} {r : R → Option T} {s : S} {x : R} (h : o = some (if c then .ret x else .next s)) : aft o k r = if c then r x else k s := by
  rw [h]; by_cases hc : c <;> simp [hc, aft]
/-- two rows, entry by entry -/
theorem forN_same {l m : List α} [DecidableEq α] {body : Nat → Unit → Option (LR Unit R)} {r : R} (hn : l.length ≤ 4611686018427387904) (hl : l.length = m.length)
    (h : ∀ i x y, l[i]? = some x → m[i]? = some y → body i () = some (if x = y then .next () else .ret r)) :
    forN (l.length : Int) body () = some (if l = m then .next () else .ret r) := by
  rw [forN_allI (p := fun i => decide (l[i]? = m[i]?)) (r := r) hn (fun j hj _ => by
    have hj2 : j < m.length := by omega
    rw [h j _ _ (List.getElem?_eq_getElem hj) (List.getElem?_eq_getElem hj2)]
    simp [List.getElem?_eq_getElem hj, List.getElem?_eq_getElem hj2])]
  congr 1
  have : ((List.range l.length).all fun i => decide (l[i]? = m[i]?)) = decide (l = m) := by
    rw [Bool.eq_iff_iff, List.all_eq_true, decide_eq_true_iff]
    constructor
    · intro H
      refine List.ext_getElem? fun i => ?_
      by_cases hi : i < l.length
      · simpa using H i (by simpa using hi)
      · rw [List.getElem?_eq_none (by omega), List.getElem?_eq_none (by omega)]
    · rintro rfl; simp
  rw [this]
  simp
end Go.Pp
end
section
/- Shapes: letters, bare, numbers, what an instruction reads and sets, where it goes: the same by the program and by the document. -/
namespace Go.Pf
open Go.Pp

/-- an operation's letters -/
def PS (op : Int) : ByteArray := (code_Parts op).getD ({ data := #[] } : ByteArray)
def hasS (op c : Int) : Bool := (sbytes (PS op)).contains c
theorem parts_fin : ∀ n : Fin 24, (code_Parts (n.val : Int)).isSome = true ∧ portolanref03_Parts (n.val : Int) = code_Parts (n.val : Int) := by decide +kernel
theorem parts_out {op : Int} (h : ¬ (0 ≤ op ∧ op < 24)) : code_Parts op = some ({ data := #[] } : ByteArray) ∧ portolanref03_Parts op = some ({ data := #[] } : ByteArray) := by
  constructor
  · unfold code_Parts
    by_cases h0 : op < 0
    · simp [h0]
    · have : 24 ≤ op := by omega
      simp [h0, this]
  · have e : ∀ k : Int, 0 ≤ k → k < 24 → (op == k) = false := fun k h1 h2 => by simp; omega
    simp [portolanref03_Parts, portolanref03_Parts.j1, portolanref03_Parts.j2, portolanref03_Parts.j3, portolanref03_Parts.j4, portolanref03_Parts.j5, e]
theorem fin_of {op : Int} (h : 0 ≤ op ∧ op < 24) : ∃ n : Fin 24, op = (n.val : Int) := ⟨⟨op.toNat, by omega⟩, by simp; omega⟩
theorem parts_c (op : Int) : code_Parts op = some (PS op) := by
  by_cases h : 0 ≤ op ∧ op < 24
  · obtain ⟨n, rfl⟩ := fin_of h
    have := (parts_fin n).1
    unfold PS
    cases hx : code_Parts (n.val : Int) with
    | none => rw [hx] at this; cases this
    | some x => rfl
  · unfold PS; rw [(parts_out h).1]; rfl
theorem parts_r (op : Int) : portolanref03_Parts op = some (PS op) := by
  by_cases h : 0 ≤ op ∧ op < 24
  · obtain ⟨n, rfl⟩ := fin_of h
    rw [(parts_fin n).2, parts_c]
  · unfold PS; rw [(parts_out h).1, (parts_out h).2]; rfl
theorem PS_out {op : Int} (h : ¬ (0 ≤ op ∧ op < 24)) : PS op = ({ data := #[] } : ByteArray) := by unfold PS; rw [(parts_out h).1]; rfl
def letters : List Int := [68, 65, 66, 78, 77, 110, 76]
theorem has_fin : ∀ n : Fin 24, ∀ c ∈ letters, portolanref04_has (n.val : Int) c = some (hasS (n.val : Int) c) ∧ shape_has (n.val : Int) c = some (hasS (n.val : Int) c) ∧ code_letters (n.val : Int) c = some (hasS (n.val : Int) c) := by decide +kernel
theorem any_fin : ∀ n : Fin 24, ∀ c ∈ letters, shape_hasAny (PS (n.val : Int)) ({ data := #[c.toNat.toUInt8] } : ByteArray) = some (hasS (n.val : Int) c) := by decide +kernel
theorem any2_fin : ∀ n : Fin 24, shape_hasAny (PS (n.val : Int)) ({ data := #[78, 110] } : ByteArray) = some (hasS (n.val : Int) 78 || hasS (n.val : Int) 110) := by decide +kernel
theorem has_e : ∀ c ∈ letters, aft (forN (ByteArray.size ({ data := #[] } : ByteArray) : Int) (portolanref04_has.b1 c ({ data := #[] } : ByteArray)) ()) (fun _ => portolanref04_has.k1) (fun r => some r) = some false ∧ (strings_IndexByte ({ data := #[] } : ByteArray) c).bind (fun x2 => some (decide (0 ≤ x2))) = some false ∧ (sbytes ({ data := #[] } : ByteArray)).contains c = false ∧ shape_hasAny ({ data := #[] } : ByteArray) ({ data := #[c.toNat.toUInt8] } : ByteArray) = some false ∧ shape_hasAny ({ data := #[] } : ByteArray) ({ data := #[78, 110] } : ByteArray) = some false := by decide +kernel
theorem has_all (op : Int) {c : Int} (hc : c ∈ letters) : portolanref04_has op c = some (hasS op c) ∧ shape_has op c = some (hasS op c) ∧ code_letters op c = some (hasS op c) ∧ shape_hasAny (PS op) ({ data := #[c.toNat.toUInt8] } : ByteArray) = some (hasS op c) ∧ shape_hasAny (PS op) ({ data := #[78, 110] } : ByteArray) = some (hasS op 78 || hasS op 110) := by
  by_cases h : 0 ≤ op ∧ op < 24
  · obtain ⟨n, rfl⟩ := fin_of h
    obtain ⟨h1, h2, h3⟩ := has_fin n c hc
    exact ⟨h1, h2, h3, any_fin n c hc, any2_fin n⟩
  · obtain ⟨h1, h2, h3, h4, h5⟩ := has_e c hc
    have hS : ∀ c ∈ letters, hasS op c = false := fun c hc => by unfold hasS; rw [PS_out h]; exact (has_e c hc).2.2.1
    rw [hS c hc, hS 78 (by decide), hS 110 (by decide)]
    refine ⟨?_, ?_, ?_, ?_, ?_⟩
    · unfold portolanref04_has; rw [(parts_out h).2, Option.bind_some]; exact h1
    · unfold shape_has; rw [(parts_out h).1, Option.bind_some]; exact h2
    · unfold code_letters; rw [(parts_out h).1, Option.bind_some]; exact h2
    · rw [PS_out h]; exact h4
    · rw [PS_out h]; exact h5
theorem has_r (op : Int) {c : Int} (hc : c ∈ letters := by decide) : portolanref04_has op c = some (hasS op c) := (has_all op hc).1
theorem has_s (op : Int) {c : Int} (hc : c ∈ letters := by decide) : shape_has op c = some (hasS op c) := (has_all op hc).2.1
theorem has_c (op : Int) {c : Int} (hc : c ∈ letters := by decide) : code_letters op c = some (hasS op c) := (has_all op hc).2.2.1

def wI (x lo hi : Int) : Bool := decide (lo ≤ x ∧ x ≤ hi)
theorem within_s (a b c : Int) : shape_within a b c = some (wI a b c) := by
  unfold shape_within wI; by_cases h : b ≤ a <;> simp [h]
theorem within_r (a b c : Int) : portolanref04_within a b c = some (wI a b c) := by
  unfold portolanref04_within wI; by_cases h : b ≤ a <;> simp [h]

def bareS (x : Ins) : Bool :=
  ((x.D == 0) || hasS x.Op 68) && ((x.A == 0) || hasS x.Op 65) && ((x.B == 0) || hasS x.Op 66) && ((x.N == 0) || (hasS x.Op 78 || hasS x.Op 110)) && ((x.M == 0) || hasS x.Op 77) && (((x.Args.length : Int) == 0) || hasS x.Op 76)
theorem bare1 {x : Ins} {v : Int} {s : ByteArray} {b : Bool} (h : shape_hasAny (PS x.Op) s = some b) : shape_bare_1 v s x = some (!((v == 0) || b)) := by
  unfold shape_bare_1
  rw [parts_c, Option.bind_some, h, Option.bind_some, bne]
  cases v == 0 <;> simp
theorem bare_s (x : Ins) : shape_bare x = some (bareS x) := by
  unfold shape_bare bareS
  have e (c : Int) (hc : c ∈ letters) (v : Int) : shape_bare_1 v ({ data := #[c.toNat.toUInt8] } : ByteArray) x = some (!((v == 0) || hasS x.Op c)) := bare1 (has_all x.Op hc).2.2.2.1
  rw [show shape_bare_1 x.D ({ data := #[68] } : ByteArray) x = _ from e 68 (by decide) _, show shape_bare_1 x.A ({ data := #[65] } : ByteArray) x = _ from e 65 (by decide) _, show shape_bare_1 x.B ({ data := #[66] } : ByteArray) x = _ from e 66 (by decide) _, show shape_bare_1 x.M ({ data := #[77] } : ByteArray) x = _ from e 77 (by decide) _, show shape_bare_1 (x.Args.length : Int) ({ data := #[76] } : ByteArray) x = _ from e 76 (by decide) _, bare1 (v := x.N) (has_all x.Op (c := 77) (by decide)).2.2.2.2]
  simp only [Option.bind_some]
  generalize ((x.D == 0) || hasS x.Op 68) = d1
  generalize ((x.A == 0) || hasS x.Op 65) = d2
  generalize ((x.B == 0) || hasS x.Op 66) = d3
  generalize ((x.N == 0) || (hasS x.Op 78 || hasS x.Op 110)) = d4
  generalize ((x.M == 0) || hasS x.Op 77) = d5
  generalize (((x.Args.length : Int) == 0) || hasS x.Op 76) = d6
  cases d1 <;> cases d2 <;> cases d3 <;> cases d4 <;> cases d5 <;> simp
theorem bare_r (x : Ins) : portolanref04_bare x = some (bareS x) := by
  unfold portolanref04_bare bareS
  simp only [has_r x.Op (c := 68), has_r x.Op (c := 65), has_r x.Op (c := 66), has_r x.Op (c := 78), has_r x.Op (c := 110), has_r x.Op (c := 77), has_r x.Op (c := 76), Option.bind_some]
  generalize (x.D == 0) = b1
  generalize hasS x.Op 68 = c1
  generalize (x.A == 0) = b2
  generalize hasS x.Op 65 = c2
  generalize (x.B == 0) = b3
  generalize hasS x.Op 66 = c3
  generalize (x.N == 0) = b4
  generalize hasS x.Op 78 = c4
  generalize hasS x.Op 110 = c5
  generalize (x.M == 0) = b5
  generalize hasS x.Op 77 = c6
  generalize ((x.Args.length : Int) == 0) = b6
  generalize hasS x.Op 76 = c7
  clear x
  revert b1 c1 b2 c2 b3 c3 b4 c4 c5 b5 c6 b6 c7
  decide +kernel

def nQ (n : Nat) : Int := (n : Int) - 1
theorem w64L {n : Nat} (h : n ≤ 281474976710656) : w64 ((n : Int) - 1) = nQ n := by unfold nQ; exact w64_id (by omega) (by omega)
def okF0 (p : Prog) : Prop := p.Funcs.length ≤ 281474976710656
def numS (p : Prog) (x : Ins) : Bool :=
  if x.Op == 19 then wI x.N 0 (nQ p.Funcs.length) && (match ixL p.Funcs x.N with | some f => (x.Args.length : Int) == f.Params | none => false)
  else if x.Op == 1 then wI x.N (-2147483648) 2147483648
  else if x.Op == 16 then wI x.N (-8) 8
  else if x.Op == 10 then wI x.N 0 8 && wI x.M 0 8
  else if x.Op == 11 || x.Op == 12 || x.Op == 13 || x.Op == 14 || x.Op == 15 then wI x.N 0 7
  else true
theorem ixL_in {α : Type} {l : List α} {i : Int} (h : wI i 0 (nQ l.length) = true) : ∃ x, ixL l i = some x ∧ x ∈ l := by
  unfold wI nQ at h
  have h := of_decide_eq_true h
  exact ⟨_, ixL_int h.1 (by omega), List.getElem_mem _⟩
theorem num_s {p : Prog} {x : Ins} (h : okF0 p) : shape_numbers p x = some (numS p x) := by
  unfold shape_numbers numS shape_numbers.j1
  simp only [within_s, Option.bind_some, w64L h]
  cases h1 : x.Op == 19
  · cases h2 : x.Op == 1 <;> cases h3 : x.Op == 16 <;> cases h4 : x.Op == 10 <;> cases h5 : x.Op == 11 <;> cases h6 : x.Op == 12 <;> cases h7 : x.Op == 13 <;> cases h8 : x.Op == 14 <;> simp [iteS]
    all_goals cases wI x.N 0 8 <;> simp
  · cases hw : wI x.N 0 (nQ p.Funcs.length)
    · simp
    · obtain ⟨f, hf, _⟩ := ixL_in hw
      simp [hf]
theorem num_r {p : Prog} {x : Ins} (h : okF0 p) : portolanref04_Ins.k2 p x = some (numS p x) := by
  unfold portolanref04_Ins.k2 numS portolanref04_Ins.j3
  simp only [within_r, Option.bind_some, w64L h]
  cases h1 : x.Op == 19
  · cases h2 : x.Op == 1 <;> cases h3 : x.Op == 16 <;> cases h4 : x.Op == 10 <;> cases h5 : x.Op == 11 <;> cases h6 : x.Op == 12 <;> cases h7 : x.Op == 13 <;> cases h8 : x.Op == 14 <;> simp [iteS]
    all_goals cases wI x.N 0 8 <;> simp
  · cases hw : wI x.N 0 (nQ p.Funcs.length)
    · simp
    · obtain ⟨f, hf, _⟩ := ixL_in hw
      simp [hf]

def lastS (op : Int) : Bool := wI op 21 23
theorem last_s (op : Int) : shape_Last op = some (lastS op) := by unfold shape_Last; rw [within_s]; rfl
theorem last_r (op : Int) : portolanref04_Last op = some (lastS op) := by
  unfold portolanref04_Last lastS wI
  by_cases h1 : op = 21
  · simp [h1]
  · by_cases h2 : op = 22
    · simp [h2]
    · by_cases h3 : op = 23
      · simp [h3]
      · have : ¬ (21 ≤ op ∧ op ≤ 23) := by omega
        simp [h1, h2, h3, this]
def setS (x : Ins) : Int × Bool := if hasS x.Op 68 then (x.D, true) else (0, false)
theorem sets_s (x : Ins) : shape_Sets x = some (setS x) := by unfold shape_Sets code_Sets setS; rw [has_c, Option.bind_some]; cases hasS x.Op 68 <;> simp
theorem sets_r (x : Ins) : portolanref04_Sets x = some (setS x) := by unfold portolanref04_Sets setS; rw [has_r]; cases hasS x.Op 68 <;> simp
def useS (x : Ins) : List Int := (if hasS x.Op 65 then [x.A] else []) ++ (if hasS x.Op 66 then [x.B] else []) ++ (if hasS x.Op 76 then x.Args else [])
def okI0 (x : Ins) : Prop := x.Args.length ≤ 17592186043904
theorem use_s {x : Ins} (h : okI0 x) : shape_Uses x = some (useS x) := by
  unfold okI0 at h
  unfold shape_Uses shape_Uses.j1 shape_Uses.j2 useS
  simp only [has_s x.Op (c := 65), has_s x.Op (c := 66), has_s x.Op (c := 76), Option.bind_some]
  cases hasS x.Op 65 <;> cases hasS x.Op 66 <;> cases hasS x.Op 76 <;> simp [appL] <;> omega
theorem use_r {x : Ins} (h : okI0 x) : portolanref04_Uses x = some (useS x) := by
  unfold okI0 at h
  unfold portolanref04_Uses portolanref04_Uses.j1 portolanref04_Uses.j2 useS
  simp only [has_r x.Op (c := 65), has_r x.Op (c := 66), has_r x.Op (c := 76), Option.bind_some]
  cases hasS x.Op 65 <;> cases hasS x.Op 66 <;> cases hasS x.Op 76 <;> simp [appL] <;> omega
theorem use_len {x : Ins} (h : okI0 x) : (useS x).length ≤ 17592186043906 := by
  unfold okI0 at h
  unfold useS
  cases hasS x.Op 65 <;> cases hasS x.Op 66 <;> cases hasS x.Op 76 <;> simp <;> omega
def nextS (x : Ins) : List Int := if x.Op == 21 then [x.N] else if x.Op == 22 then (if x.N = x.M then [x.N] else if x.N < x.M then [x.N, x.M] else [x.M, x.N]) else []
theorem sort2p (a b : Int) : [a, b].mergeSort (fun x y => decide (x ≤ y)) = if a ≤ b then [a, b] else [b, a] := by
  simp [List.mergeSort, List.MergeSort.Internal.splitInTwo, List.merge]
theorem compact2 (a b : Int) : Go.Lib.compactUpTo #[a, b] 2 = if a = b then [a] else [a, b] := by
  by_cases h : a = b
  · simp [Go.Lib.compactUpTo, Go.Lib.keeps, List.range_succ, h]
  · simp [Go.Lib.compactUpTo, Go.Lib.keeps, List.range_succ, h, Ne.symm h]
theorem compact1 (a : Int) : Go.Lib.compactUpTo #[a] 1 = [a] := by
  simp [Go.Lib.compactUpTo, Go.Lib.keeps, List.range_succ]
theorem compact0 : Go.Lib.compactUpTo (#[] : Array Int) 0 = [] := by
  simp [Go.Lib.compactUpTo]
theorem next_s (x : Ins) : shape_Next x = some (nextS x) := by
  unfold shape_Next nextS shape_Next.j1 slices_Sort_int slices_Compact_int
  by_cases h1 : x.Op = 22
  · simp only [h1, sort2p]
    rcases Int.lt_trichotomy x.N x.M with h | h | h
    · have : x.N ≤ x.M := by omega
      have : x.N ≠ x.M := by omega
      simp [*, Go.Lib.compact, compact2]
    · simp [*, Go.Lib.compact, compact2]
    · have : ¬ x.N ≤ x.M := by omega
      have : ¬ x.N < x.M := by omega
      have : x.N ≠ x.M := by omega
      have : x.M ≠ x.N := by omega
      simp [*, Go.Lib.compact, compact2]
  · by_cases h2 : x.Op = 21
    · simp [h2, Go.Lib.compact, compact1]
    · simp [h1, h2, Go.Lib.compact, compact0]
theorem next_r (x : Ins) : portolanref04_Next x = some (nextS x) := by
  unfold portolanref04_Next nextS
  by_cases h2 : x.Op = 21
  · simp [h2]
  · by_cases h1 : x.Op = 22
    · simp only [h1]
      rcases Int.lt_trichotomy x.N x.M with h | h | h
      · have : ¬ x.M < x.N := by omega
        have : x.N ≠ x.M := by omega
        simp [*]
      · simp [*]
      · have : ¬ x.N < x.M := by omega
        have : x.N ≠ x.M := by omega
        simp [*]
    · simp [h1, h2]
theorem next_len (x : Ins) : (nextS x).length ≤ 2 := by unfold nextS; (repeat' split) <;> simp
end Go.Pf
end
section
/- Shapes: which function may be, by the program and by the document. -/
namespace Go.Pf
open Go.Pp

theorem iteB (b : Bool) : (if b = true then some true else some false) = some b := by cases b <;> rfl
/-- the first place in a row that a test takes -/
theorem findL {α : Type} {l : List α} {body : Nat → Unit → Option (LR Unit Int)} {p : α → Bool} (hn : l.length ≤ 4611686018427387904)
    (h : ∀ (j : Nat) (hj : j < l.length), body j () = some (if p l[j] then .ret (j : Int) else .next ())) :
    ∃ o, forN (l.length : Int) body () = some o ∧ ((o = .next () ∧ ∀ m (hm : m < l.length), p l[m] = false) ∨ (∃ (i : Nat) (hi : i < l.length), o = .ret (i : Int) ∧ p l[i] = true ∧ ∀ m (hm : m < l.length), m < i → p l[m] = false)) := by
  refine forN_rule (body := body) (s := ()) (n := l.length) (fun j _ => ∀ m (hm : m < l.length), m < j → p l[m] = false) _ hn (fun _ _ h => by omega) (fun j s hj hI => ?_) (fun s hI => .inl ⟨rfl, fun m hm => hI m hm hm⟩)
  rw [show s = () from rfl, h j hj]
  cases hp : p l[j]
  · refine ⟨_, rfl, fun m hm hmj => ?_⟩
    by_cases e : m = j
    · subst e; exact hp
    · exact hI m hm (by omega)
  · exact ⟨_, rfl, .inr ⟨j, hj, rfl, hp, hI⟩⟩
theorem anyL {α : Type} {l : List α} {p : α → Bool} {o : LR Unit Int} (h : (o = .next () ∧ ∀ m (hm : m < l.length), p l[m] = false) ∨ (∃ (i : Nat) (hi : i < l.length), o = .ret (i : Int) ∧ p l[i] = true ∧ ∀ m (hm : m < l.length), m < i → p l[m] = false)) :
    (o = .next () ∧ l.any p = false) ∨ (∃ i : Nat, o = .ret (i : Int) ∧ l.any p = true) := by
  rcases h with ⟨h1, h2⟩ | ⟨i, hi, h1, h2, _⟩
  · refine .inl ⟨h1, ?_⟩
    rw [← Bool.not_eq_true, List.any_eq_true]
    rintro ⟨x, hx, hp⟩
    obtain ⟨i, hi, rfl⟩ := List.mem_iff_getElem.1 hx
    rw [h2 i hi] at hp; cases hp
  · exact .inr ⟨i, h1, List.any_eq_true.2 ⟨_, List.getElem_mem hi, h2⟩⟩
theorem contInt {l : List Int} {a : Int} (hn : l.length ≤ 4611686018427387904) : slices_Contains_int l a = some (l.any (fun x => a == x)) := by
  obtain ⟨o, ho, hq⟩ := findL (l := l) (body := slices_Index_int.b1 l a) (p := fun x => a == x) hn (fun j hj => by
    simp only [slices_Index_int.b1, ixL_lt hj, Option.bind_some]; split <;> rfl)
  unfold slices_Contains_int slices_Index_int
  rcases anyL hq with ⟨rfl, h⟩ | ⟨i, rfl, h⟩
  · rw [aft_next ho, h]; rfl
  · rw [aft_ret ho, h]; simp
theorem containsBlock {l : List Block} {f : Block → Option Bool} {p : Block → Bool} (hn : l.length ≤ 4611686018427387904) (h : ∀ x ∈ l, f x = some (p x)) : slices_ContainsFunc_Block l f = some (l.any p) := by
  obtain ⟨o, ho, hq⟩ := findL (l := l) (body := slices_IndexFunc_Block.b1 l f) (p := p) hn (fun j hj => by
    simp only [slices_IndexFunc_Block.b1, ixL_lt hj, Option.bind_some, h _ (List.getElem_mem hj)]; split <;> rfl)
  unfold slices_ContainsFunc_Block slices_IndexFunc_Block
  rcases anyL hq with ⟨rfl, h⟩ | ⟨i, rfl, h⟩
  · rw [aft_next ho, h]; rfl
  · rw [aft_ret ho, h]; simp
theorem containsInt {l : List Int} {f : Int → Option Bool} {p : Int → Bool} (hn : l.length ≤ 4611686018427387904) (h : ∀ x ∈ l, f x = some (p x)) : slices_ContainsFunc_int l f = some (l.any p) := by
  obtain ⟨o, ho, hq⟩ := findL (l := l) (body := slices_IndexFunc_int.b1 l f) (p := p) hn (fun j hj => by
    simp only [slices_IndexFunc_int.b1, ixL_lt hj, Option.bind_some, h _ (List.getElem_mem hj)]; split <;> rfl)
  unfold slices_ContainsFunc_int slices_IndexFunc_int
  rcases anyL hq with ⟨rfl, h⟩ | ⟨i, rfl, h⟩
  · rw [aft_next ho, h]; rfl
  · rw [aft_ret ho, h]; simp
theorem containsIns {l : List Ins} {f : Ins → Option Bool} {p : Ins → Bool} (hn : l.length ≤ 4611686018427387904) (h : ∀ x ∈ l, f x = some (p x)) : slices_ContainsFunc_Ins l f = some (l.any p) := by
  obtain ⟨o, ho, hq⟩ := findL (l := l) (body := slices_IndexFunc_Ins.b1 l f) (p := p) hn (fun j hj => by
    simp only [slices_IndexFunc_Ins.b1, ixL_lt hj, Option.bind_some, h _ (List.getElem_mem hj)]; split <;> rfl)
  unfold slices_ContainsFunc_Ins slices_IndexFunc_Ins
  rcases anyL hq with ⟨rfl, h⟩ | ⟨i, rfl, h⟩
  · rw [aft_next ho, h]; rfl
  · rw [aft_ret ho, h]; simp

def lastAt (b : Block) (i : Nat) : Bool := match b.Code[i]? with
  | some x => lastS x.Op == ((i : Int) == nQ b.Code.length)
  | none => false
def blockS (b : Block) : Bool := wI b.Code.length 1 40 && (List.range b.Code.length).all (lastAt b)
theorem block_s {b : Block} (h : b.Code.length ≤ 281474976710656) : shape_block b = some (blockS b) := by
  unfold shape_block blockS
  rw [within_s, Option.bind_some]
  cases hw : wI b.Code.length 1 40
  · simp
  simp only [↓reduceIte, Bool.true_and]
  have hlen : 1 ≤ b.Code.length := by unfold wI at hw; have := of_decide_eq_true hw; omega
  obtain ⟨o, ho, hq⟩ := findL (l := b.Code) (body := slices_IndexFunc_Ins.b1 b.Code shape_block_1) (p := fun x => lastS x.Op) (by omega) (fun j hj => by
    simp only [slices_IndexFunc_Ins.b1, ixL_lt hj, Option.bind_some, shape_block_1, last_s]; split <;> rfl)
  unfold slices_IndexFunc_Ins
  rw [w64L h]
  have key : ∀ c : Bool, (c = true ↔ ∀ m (hm : m < b.Code.length), lastS b.Code[m].Op = decide (m = b.Code.length - 1)) → c = (List.range b.Code.length).all (lastAt b) := by
    intro c hc
    rw [Bool.eq_iff_iff, hc, List.all_eq_true]
    constructor
    · intro H m hm
      have hm : m < b.Code.length := by simpa using hm
      unfold lastAt nQ
      rw [List.getElem?_eq_getElem hm]
      simp only [H m hm, beq_iff_eq]
      rw [Bool.eq_iff_iff]; simp; omega
    · intro H m hm
      have := H m (by simpa using hm)
      unfold lastAt nQ at this
      rw [List.getElem?_eq_getElem hm] at this
      simp only [beq_iff_eq] at this
      rw [this, Bool.eq_iff_iff]; simp; omega
  rcases hq with ⟨rfl, hq⟩ | ⟨i, hi, rfl, h1, h2⟩
  · rw [aft_next ho]
    simp only [slices_IndexFunc_Ins.k1, Option.bind_some]
    congr 1
    refine key _ ⟨fun hc => ?_, fun hc => ?_⟩
    · unfold nQ at hc; simp at hc; omega
    · have := hc (b.Code.length - 1) (by omega); rw [hq] at this; simp at this
  · rw [aft_ret ho]
    simp only [Option.bind_some]
    congr 1
    refine key _ ⟨fun hc m hm => ?_, fun hc => ?_⟩
    · unfold nQ at hc
      have hc : (i : Int) = (b.Code.length : Int) - 1 := by simpa using hc
      by_cases hmi : m = i
      · subst hmi; rw [h1, eq_comm, decide_eq_true_iff]; omega
      · rw [h2 m hm (by omega), eq_comm, decide_eq_false_iff_not]; omega
    · have := hc i hi
      rw [h1, eq_comm, decide_eq_true_iff] at this
      unfold nQ; simp; omega
theorem block_r {a : Func} {b : Block} {i : Nat} (hb : a.Blocks[i]? = some b) (h : b.Code.length ≤ 281474976710656) : portolanref04_Func.b2 a i () = some (if blockS b then .next () else .ret false) := by
  unfold portolanref04_Func.b2 blockS
  simp only [ixL_of hb, Option.bind_some, within_r]
  cases hw : wI b.Code.length 1 40
  · simp
  simp only [↓reduceIte, Bool.true_and]
  rw [aft_if (forN_allI (p := lastAt b) (r := false) (by omega) (fun j hj _ => by
    simp only [portolanref04_Func.b3, ixL_lt hj, Option.bind_some, last_r, w64L h, lastAt, List.getElem?_eq_getElem hj]; split <;> simp_all))]
  simp only [portolanref04_Func.k3, iteS]

def entB (f : Func) (k b : Int) : Bool := if k == 2 then wI b 0 (nQ f.Kinds.length) && (match ixL f.Kinds b with | some k' => k' == 1 | none => false) else (k == 0 || k == 1) && b == -1
def entS (f : Func) (i : Nat) : Bool := match f.Kinds[i]?, f.Base[i]? with
  | some k, some b => entB f k b
  | _, _ => false
def okF1 (f : Func) : Prop := f.Kinds.length ≤ 281474976710656 ∧ f.Base.length ≤ 281474976710656 ∧ f.Blocks.length ≤ 281474976710656 ∧ ∀ b ∈ f.Blocks, b.Code.length ≤ 281474976710656
def kindsS (f : Func) : Bool := decide (f.Kinds.length ≤ 48) && decide (f.Base.length = f.Kinds.length) && (List.range f.Kinds.length).all (entS f)
theorem kinds_s {f : Func} (h : okF1 f) : shape_kinds f = some (kindsS f) := by
  unfold shape_kinds kindsS shape_kinds.j1
  by_cases h48 : f.Kinds.length ≤ 48
  · have e1 : ¬ (48 < (f.Kinds.length : Int)) := by omega
    by_cases hb : f.Base.length = f.Kinds.length
    · have e2 : ((f.Base.length : Int) != (f.Kinds.length : Int)) = false := by simp [hb]
      simp only [e1, decide_false, Bool.false_eq_true, ↓reduceIte, e2, h48, hb, decide_true, Bool.true_and]
      rw [aft_if (forN_allI (p := entS f) (r := false) (by omega) (fun j hj _ => by
        have hj2 : j < f.Base.length := by omega
        simp only [shape_kinds.b1, ixL_lt hj, ixL_lt hj2, Option.bind_some, entS, List.getElem?_eq_getElem hj, List.getElem?_eq_getElem hj2, shape_kinds.j2, within_s, w64L h.1, entB]
        generalize f.Kinds[j] = k
        generalize f.Base[j] = b
        by_cases k0 : k = 0
        · by_cases b1 : b = -1 <;> simp [k0, b1]
        · by_cases k1 : k = 1
          · by_cases b1 : b = -1 <;> simp [k1, b1]
          · by_cases k2 : k = 2
            · simp only [k2]
              cases hw : wI b 0 (nQ f.Kinds.length)
              · simp
              · obtain ⟨x, hx, _⟩ := ixL_in hw
                by_cases hx1 : x = 1 <;> simp [hx, hx1]
            · simp [k0, k1, k2]))]
      simp only [shape_kinds.k1, iteB]
      simp
    · have e2 : ((f.Base.length : Int) != (f.Kinds.length : Int)) = true := by simp; omega
      simp [e1, e2, hb]
  · have e1 : (48 < (f.Kinds.length : Int)) := by omega
    simp [e1, h48]
def parS (f : Func) : Bool := (List.range f.Kinds.length).all fun i => match f.Kinds[i]? with | some k => !(decide ((i : Int) < f.Params) && k == 2) | none => true
def funcS (f : Func) : Bool := kindsS f && (wI f.Params 0 (if (f.Kinds.length : Int) < 4 then (f.Kinds.length : Int) else 4) && (parS f && (wI f.Result 0 1 && (wI f.Blocks.length 1 40 && f.Blocks.all blockS))))
theorem par_s {f : Func} (h : okF1 f) (hp : wI f.Params 0 (if (f.Kinds.length : Int) < 4 then (f.Kinds.length : Int) else 4) = true) : (headL f.Kinds f.Params).bind (fun l => slices_Contains_int l 2) = some (!parS f) := by
  unfold wI at hp
  have hp := of_decide_eq_true hp
  have hk := h.1
  have hl : f.Params ≤ f.Kinds.length := by split at hp <;> omega
  rw [headL_ok hp.1 hl, Option.bind_some, contInt (by simp; omega)]
  congr 1
  unfold parS
  rw [Bool.eq_iff_iff, List.any_eq_true]
  simp only [Bool.not_eq_true', ← Bool.not_eq_true, List.all_eq_true]
  constructor
  · rintro ⟨x, hx, h2⟩ H
    obtain ⟨i, hi, rfl⟩ := List.mem_iff_getElem.1 hx
    rw [List.length_take] at hi
    have hi2 : i < f.Kinds.length := by omega
    have := H i (by simpa using hi2)
    rw [List.getElem?_eq_getElem hi2] at this
    simp at this h2
    rcases this with h3 | h3
    · omega
    · exact h3 h2.symm
  · intro H
    by_cases hc : ∃ x, x ∈ List.take f.Params.toNat f.Kinds ∧ (2 == x) = true
    · exact hc
    · exfalso; apply H
      intro i hi
      have hi : i < f.Kinds.length := by simpa using hi
      rw [List.getElem?_eq_getElem hi]
      simp only [Bool.not_eq_true', Bool.and_eq_false_iff, decide_eq_false_iff_not]
      by_cases hip : (i : Int) < f.Params
      · right
        rw [← Bool.not_eq_true]; intro h2
        refine hc ⟨f.Kinds[i], ?_, by simp at h2 ⊢; omega⟩
        have hlt : i < (List.take f.Params.toNat f.Kinds).length := by rw [List.length_take]; omega
        have := List.getElem_mem hlt
        rwa [List.getElem_take] at this
      · exact .inl hip
theorem func_s {f : Func} (h : okF1 f) : shape_Func f = some (funcS f) := by
  unfold shape_Func funcS
  rw [kinds_s h, Option.bind_some]
  cases kindsS f
  · simp [shape_Func.j1]
  simp only [↓reduceIte, within_s, Option.bind_some, Bool.true_and]
  cases hp : wI f.Params 0 (if (f.Kinds.length : Int) < 4 then (f.Kinds.length : Int) else 4)
  · simp [shape_Func.j1]
  simp only [Bool.not_true, shape_Func.j1, Bool.false_eq_true, ↓reduceIte, Bool.true_and]
  have hps := par_s h hp
  obtain ⟨l, hl, hc⟩ := Option.bind_eq_some_iff.1 hps
  rw [hl, Option.bind_some, hc, Option.bind_some]
  cases parS f
  · simp [shape_Func.j2]
  simp only [Bool.not_true, Bool.false_eq_true, ↓reduceIte, Bool.true_and, within_s, Option.bind_some]
  cases wI f.Result 0 1
  · simp [shape_Func.j2]
  simp only [Bool.not_true, Bool.false_eq_true, ↓reduceIte, Bool.true_and, within_s, Option.bind_some, shape_Func.j2]
  cases wI f.Blocks.length 1 40
  · simp
  rw [containsBlock (p := fun b => !blockS b) (by have := h.2.2.1; omega) (fun b hb => by unfold shape_Func_1; rw [block_s (h.2.2.2 b hb)]; rfl)]
  simp [List.not_any_eq_all_not]
theorem func_r {f : Func} (h : okF1 f) : portolanref04_Func f = some (funcS f) := by
  have hall : f.Base.length = f.Kinds.length → f.Kinds.length ≤ 48 → portolanref04_Func.j1 f false = some ((List.range f.Kinds.length).all (entS f) && (parS f && f.Blocks.all blockS)) := by
    intro hb hk
    unfold portolanref04_Func.j1
    simp only [Bool.false_eq_true, ↓reduceIte]
    rw [aft_if (forN_allI (p := fun i => entS f i && (match f.Kinds[i]? with | some k => !(decide ((i : Int) < f.Params) && k == 2) | none => true)) (r := false) (by omega) (fun j hj _ => by
      have hj2 : j < f.Base.length := by omega
      simp only [portolanref04_Func.b1, portolanref04_Func.j2, ixL_lt hj, ixL_lt hj2, Option.bind_some, entS, List.getElem?_eq_getElem hj, List.getElem?_eq_getElem hj2, within_r, w64L h.1, entB]
      generalize f.Kinds[j] = k
      generalize f.Base[j] = b
      by_cases k0 : k = 0
      · by_cases b1 : b = -1 <;> simp [k0, b1, wI]
      · by_cases k1 : k = 1
        · by_cases b1 : b = -1 <;> simp [k1, b1, wI]
        · by_cases k2 : k = 2
          · simp only [k2]
            by_cases hp : (j : Int) < f.Params
            · simp [hp, wI]
            · rw [show wI 2 0 2 = true by decide]
              cases hw : wI b 0 (nQ f.Kinds.length)
              · simp [hp]
              · obtain ⟨x, hx, _⟩ := ixL_in hw
                by_cases hx1 : x = 1 <;> simp [hx, hx1, hp]
          · have : wI k 0 2 = false := by unfold wI; rw [decide_eq_false_iff_not]; omega
            simp [k0, k1, k2, this]))]
    have e : ((List.range f.Kinds.length).all fun i => entS f i && (match f.Kinds[i]? with | some k => !(decide ((i : Int) < f.Params) && k == 2) | none => true)) = ((List.range f.Kinds.length).all (entS f) && parS f) := by
      unfold parS
      rw [Bool.eq_iff_iff, Bool.and_eq_true, List.all_eq_true, List.all_eq_true, List.all_eq_true]
      simp only [Bool.and_eq_true]
      exact ⟨fun H => ⟨fun x hx => (H x hx).1, fun x hx => (H x hx).2⟩, fun H x hx => ⟨H.1 x hx, H.2 x hx⟩⟩
    rw [e]
    have e2 : portolanref04_Func.k1 f = some (f.Blocks.all blockS) := by
      unfold portolanref04_Func.k1
      rw [aft_if (forN_all (p := blockS) (r := false) (by have := h.2.2.1; omega) (fun i b hb => block_r hb (h.2.2.2 b (List.mem_of_getElem? hb))))]
      simp only [portolanref04_Func.k2, iteB]
    rw [e2]
    cases (List.range f.Kinds.length).all (entS f) <;> cases parS f <;> simp
  unfold portolanref04_Func funcS kindsS
  simp only [within_r, Option.bind_some]
  by_cases h48 : f.Kinds.length ≤ 48
  · have e1 : ¬ (48 < (f.Kinds.length : Int)) := by omega
    by_cases hb : f.Base.length = f.Kinds.length
    · have e2 : ((f.Base.length : Int) != (f.Kinds.length : Int)) = false := by simp [hb]
      simp only [e1, decide_false, Bool.false_eq_true, ↓reduceIte, e2]
      cases wI f.Params 0 (if (f.Kinds.length : Int) < 4 then (f.Kinds.length : Int) else 4)
      · simp [portolanref04_Func.j1]
      cases wI f.Result 0 1
      · simp [portolanref04_Func.j1]
      cases wI f.Blocks.length 1 40
      · simp [portolanref04_Func.j1]
      simp only [↓reduceIte, Bool.not_true, hall hb h48]
      simp [h48, hb]
    · have e2 : ((f.Base.length : Int) != (f.Kinds.length : Int)) = true := by simp; omega
      simp [e1, e2, hb, portolanref04_Func.j1]
  · have e1 : (48 < (f.Kinds.length : Int)) := by omega
    simp [e1, h48, portolanref04_Func.j1]
end Go.Pf
end
section
/- Shapes: which instruction and which program may be, by the program and by the document; the size of a program. -/
namespace Go.Pf
open Go.Pp

def okIns (x : Ins) : Prop := okI0 x
def okFn (f : Func) : Prop := okF1 f ∧ ∀ b ∈ f.Blocks, ∀ x ∈ b.Code, okI0 x
def okPr (p : Prog) : Prop := okF0 p ∧ ∀ f ∈ p.Funcs, okFn f
def touchS (x : Ins) : List Int := useS x ++ (if (setS x).2 then [(setS x).1] else [])
def inF (f : Func) (x : Ins) : Bool := (touchS x).all (fun v => wI v 0 (nQ f.Kinds.length)) && (nextS x).all (fun v => wI v 1 (nQ f.Blocks.length))
def insS (p : Prog) (fi : Int) (x : Ins) : Bool :=
  wI fi 0 (nQ p.Funcs.length) && (!(ByteArray.toList (PS x.Op) == ByteArray.toList ({ data := #[] } : ByteArray)) && (bareS x && (numS p x && (match ixL p.Funcs fi with | some f => inF f x | none => false))))
theorem touch_len {x : Ins} (h : okI0 x) : (touchS x).length ≤ 17592186043907 := by
  have := use_len h
  unfold touchS; split <;> simp <;> omega
theorem all_not {l : List Int} {p : Int → Bool} : (!(l.any fun v => !p v)) = l.all p := by rw [List.not_any_eq_all_not]; simp
theorem touch_app {x : Ins} (h : okI0 x) (hs : (setS x).2 = true) : appL 8 (useS x) [(setS x).1] = some (touchS x) := by
  have := use_len h
  rw [appL_ok (by simp; omega)]; unfold touchS; rw [if_pos hs]
theorem ins_s {p : Prog} {fi : Int} {x : Ins} (hp : okPr p) (h : okI0 x) : shape_Ins p fi x = some (insS p fi x) := by
  unfold shape_Ins insS
  simp only [within_s, Option.bind_some, w64L hp.1]
  cases hw : wI fi 0 (nQ p.Funcs.length)
  · simp [shape_Ins.j1]
  obtain ⟨f, hf, hfm⟩ := ixL_in hw
  have hF := (hp.2 f hfm).1
  simp only [↓reduceIte, parts_c, Option.bind_some, bare_s, num_s hp.1, Bool.true_and, hf]
  cases (ByteArray.toList (PS x.Op) == ByteArray.toList ({ data := #[] } : ByteArray))
  rotate_left
  · simp [shape_Ins.j1]
  cases bareS x
  · simp [shape_Ins.j1]
  cases numS p x
  · simp [shape_Ins.j1]
  simp only [shape_Ins.j1, Bool.not_true, Bool.not_false, Bool.false_eq_true, ↓reduceIte, hf, Option.bind_some, use_s h, sets_s, Bool.true_and]
  have hj : ∀ l : List Int, l.length ≤ 17592186043907 → shape_Ins.j2 x f l = some (l.all (fun v => wI v 0 (nQ f.Kinds.length)) && (nextS x).all (fun v => wI v 1 (nQ f.Blocks.length))) := by
    intro l hl
    unfold shape_Ins.j2
    rw [containsInt (p := fun v => !wI v 0 (nQ f.Kinds.length)) (by omega) (fun v _ => by unfold shape_Ins_1; rw [within_s, w64L hF.1]; rfl), Option.bind_some, next_s, Option.bind_some, containsInt (p := fun v => !wI v 1 (nQ f.Blocks.length)) (by have := next_len x; omega) (fun v _ => by unfold shape_Ins_2; rw [within_s, w64L hF.2.2.1]; rfl), Option.bind_some, all_not, ← all_not (l := l)]
    cases l.any fun v => !wI v 0 (nQ f.Kinds.length) <;> simp
  cases hs : (setS x).2
  · simp only [Bool.false_eq_true, ↓reduceIte]
    rw [hj _ (by have := use_len h; omega)]
    unfold inF touchS; simp [hs]
  · simp only [↓reduceIte, touch_app h hs, Option.bind_some]
    rw [hj _ (touch_len h)]; rfl
theorem ins_r {p : Prog} {fi : Int} {x : Ins} (hp : okPr p) (h : okI0 x) : portolanref04_Ins p fi x = some (insS p fi x) := by
  unfold portolanref04_Ins insS
  simp only [within_r, Option.bind_some, w64L hp.1]
  cases hw : wI fi 0 (nQ p.Funcs.length)
  · simp [portolanref04_Ins.j1]
  obtain ⟨f, hf, hfm⟩ := ixL_in hw
  have hF := (hp.2 f hfm).1
  simp only [↓reduceIte, parts_r, Option.bind_some, bare_r, Bool.true_and, hf]
  cases (ByteArray.toList (PS x.Op) == ByteArray.toList ({ data := #[] } : ByteArray))
  rotate_left
  · simp [portolanref04_Ins.j1]
  cases bareS x
  · simp [portolanref04_Ins.j1]
  simp only [portolanref04_Ins.j1, Bool.not_true, Bool.not_false, Bool.false_eq_true, ↓reduceIte, hf, Option.bind_some, use_r h, sets_r, Bool.true_and]
  have hj : ∀ l : List Int, l.length ≤ 17592186043907 → portolanref04_Ins.j2 p x f l = some (numS p x && (l.all (fun v => wI v 0 (nQ f.Kinds.length)) && (nextS x).all (fun v => wI v 1 (nQ f.Blocks.length)))) := by
    intro l hl
    unfold portolanref04_Ins.j2
    rw [aft_if (forN_all (p := fun v => wI v 0 (nQ f.Kinds.length)) (r := false) (by omega) (fun i v hv => by
      simp only [portolanref04_Ins.b1, ixL_of hv, Option.bind_some, within_r, w64L hF.1, iteS]))]
    unfold portolanref04_Ins.k1
    rw [next_r, Option.bind_some, aft_if (forN_all (p := fun v => wI v 1 (nQ f.Blocks.length)) (r := false) (by have := next_len x; omega) (fun i v hv => by
      simp only [portolanref04_Ins.b2, ixL_of hv, Option.bind_some, within_r, w64L hF.2.2.1, iteS]))]
    rw [num_r hp.1]
    cases l.all fun v => wI v 0 (nQ f.Kinds.length) <;> cases (nextS x).all fun v => wI v 1 (nQ f.Blocks.length) <;> simp
  cases hs : (setS x).2
  · simp only [Bool.false_eq_true, ↓reduceIte]
    rw [hj _ (by have := use_len h; omega)]
    unfold inF touchS; simp [hs]
  · simp only [↓reduceIte, touch_app h hs, Option.bind_some]
    rw [hj _ (touch_len h)]; rfl

def codeS (p : Prog) (fi : Int) (f : Func) : Bool := f.Blocks.all fun b => b.Code.all (insS p fi)
def okAt (p : Prog) (i : Nat) : Bool := match p.Funcs[i]? with
  | some f => funcS f && codeS p (i : Int) f
  | none => false
def headS (p : Prog) : Bool := wI p.Funcs.length 1 8 && (match p.Funcs[0]? with | some f => f.Params == 0 && f.Result == 0 | none => false)
def checkS (p : Prog) : Bool := headS p && (List.range p.Funcs.length).all (okAt p)
theorem check_s {p : Prog} (hp : okPr p) : shape_Check p = some (if checkS p then 0 else 5) := by
  have h0 : okF0 p := hp.1
  unfold okF0 at h0
  have hj : shape_Check.j1 p false = some (if (List.range p.Funcs.length).all (okAt p) then 0 else 5) := by
    unfold shape_Check.j1
    simp only [Bool.false_eq_true, ↓reduceIte]
    rw [aft_if (forN_allI (p := okAt p) (r := (5 : Int)) (by omega) (fun j hj _ => by
      have hF := hp.2 _ (List.getElem_mem hj)
      simp only [shape_Check.b1, ixL_lt hj, Option.bind_some, func_s hF.1, okAt, List.getElem?_eq_getElem hj]
      cases funcS p.Funcs[j]
      · simp
      simp only [↓reduceIte, Bool.true_and]
      rw [aft_if (forN_all (p := fun b => b.Code.all (insS p j)) (r := (5 : Int)) (by have := hF.1.2.2.1; omega) (fun i b hb => by
        have hbm := List.mem_of_getElem? hb
        simp only [shape_Check.b2, ixL_of hb, Option.bind_some]
        rw [containsIns (p := fun x => !insS p j x) (by have := hF.1.2.2.2 b hbm; omega) (fun x hx => by unfold shape_Check_1; rw [ins_s hp (hF.2 b hbm x hx)]; rfl), Option.bind_some, ← Bool.not_not (b := b.Code.all _), List.not_all_eq_any_not]
        cases b.Code.any fun x => !insS p (j : Int) x <;> simp))]
      simp only [shape_Check.k2]
      by_cases hc : codeS p (j : Int) p.Funcs[j] = true
      · have hc' := hc; unfold codeS at hc'; rw [if_pos hc', if_pos hc]
      · have hc' := hc; unfold codeS at hc'; rw [if_neg hc', if_neg hc]))]
    simp only [shape_Check.k1, iteS]
  unfold shape_Check checkS headS
  rw [within_s, Option.bind_some]
  cases hw : wI p.Funcs.length 1 8
  · simp [shape_Check.j1]
  have hlen : 0 < p.Funcs.length := by unfold wI at hw; have := of_decide_eq_true hw; omega
  have e := ixL_lt (l := p.Funcs) (i := 0) hlen
  simp only [↓reduceIte, show ixL p.Funcs 0 = some p.Funcs[0] from e, Option.bind_some, List.getElem?_eq_getElem hlen, bne]
  cases p.Funcs[0].Params == 0
  · simp [shape_Check.j1]
  cases p.Funcs[0].Result == 0
  · simp [shape_Check.j1]
  simp [hj]
theorem check_r {p : Prog} (hp : okPr p) : portolanref04_Check p = some (if checkS p then 0 else 5) := by
  have h0 : okF0 p := hp.1
  unfold okF0 at h0
  have hj : portolanref04_Check.j1 p false = some (if (List.range p.Funcs.length).all (okAt p) then 0 else 5) := by
    unfold portolanref04_Check.j1
    simp only [Bool.false_eq_true, ↓reduceIte]
    rw [aft_if (forN_allI (p := okAt p) (r := (5 : Int)) (by omega) (fun j hj _ => by
      have hF := hp.2 _ (List.getElem_mem hj)
      simp only [portolanref04_Check.b1, ixL_lt hj, Option.bind_some, func_r hF.1, okAt, List.getElem?_eq_getElem hj]
      cases funcS p.Funcs[j]
      · simp
      simp only [↓reduceIte, Bool.true_and]
      rw [aft_if (forN_all (p := fun b => b.Code.all (insS p j)) (r := (5 : Int)) (by have := hF.1.2.2.1; omega) (fun i b hb => by
        have hbm := List.mem_of_getElem? hb
        have hbl := hF.1.2.2.2 b hbm
        obtain ⟨o, ho, hq⟩ := whileF_rule (body := portolanref04_Check.b3 p p.Funcs[j] j i) (fun s => ∃ k : Nat, s = (k : Int) ∧ k ≤ b.Code.length ∧ ∀ m (hm : m < b.Code.length), m < k → insS p j b.Code[m] = true) (fun s => (b.Code.length - s).toNat)
          (fun o => (∃ s, o = .brk s ∧ b.Code.all (insS p j) = true) ∨ (o = .ret 5 ∧ b.Code.all (insS p j) = false))
          (fun s hs => by
            obtain ⟨k, rfl, hk, hI⟩ := hs
            simp only [portolanref04_Check.b3, ixL_of hb, Option.bind_some]
            by_cases hkl : k < b.Code.length
            · have e1 : (k : Int) < b.Code.length := by omega
              simp only [e1, decide_true, ↓reduceIte, ixL_lt hkl, Option.bind_some, ins_r hp (hF.2 b hbm _ (List.getElem_mem hkl))]
              cases hi : insS p j b.Code[k]
              · exact ⟨_, rfl, .inr ⟨rfl, by rw [← Bool.not_eq_true, List.all_eq_true]; intro H; rw [H _ (List.getElem_mem hkl)] at hi; cases hi⟩⟩
              · refine ⟨_, rfl, ⟨k + 1, by rw [w64_id (by omega) (by omega)]; rfl, by omega, fun m hm hmk => ?_⟩, by rw [w64_id (by omega) (by omega)]; omega⟩
                by_cases e : m = k
                · subst e; exact hi
                · exact hI m hm (by omega)
            · have e1 : ¬ (k : Int) < b.Code.length := by omega
              simp only [e1, decide_false, Bool.false_eq_true, ↓reduceIte]
              refine ⟨_, rfl, .inl ⟨_, rfl, List.all_eq_true.2 fun x hx => ?_⟩⟩
              obtain ⟨m, hm, rfl⟩ := List.mem_iff_getElem.1 hx
              exact hI m hm (by omega)) 18446744073709551616 0 ⟨0, rfl, by omega, fun _ _ h => by omega⟩ (by omega)
        simp only [portolanref04_Check.b2]
        rw [ho]
        rcases hq with ⟨s, rfl, ha⟩ | ⟨rfl, ha⟩ <;> simp [ha, aft, portolanref04_Check.k3]))]
      simp only [portolanref04_Check.k2]
      by_cases hc : codeS p (j : Int) p.Funcs[j] = true
      · have hc' := hc; unfold codeS at hc'; rw [if_pos hc', if_pos hc]
      · have hc' := hc; unfold codeS at hc'; rw [if_neg hc', if_neg hc]))]
    simp only [portolanref04_Check.k1, iteS]
  unfold portolanref04_Check checkS headS
  rw [within_r, Option.bind_some]
  cases hw : wI p.Funcs.length 1 8
  · simp [portolanref04_Check.j1]
  have hlen : 0 < p.Funcs.length := by unfold wI at hw; have := of_decide_eq_true hw; omega
  have e := ixL_lt (l := p.Funcs) (i := 0) hlen
  simp only [↓reduceIte, show ixL p.Funcs 0 = some p.Funcs[0] from e, Option.bind_some, List.getElem?_eq_getElem hlen, bne]
  cases p.Funcs[0].Params == 0
  · simp [portolanref04_Check.j1]
  cases p.Funcs[0].Result == 0
  · simp [portolanref04_Check.j1]
  simp [hj]

theorem great_t {p : Prog} (hp : okPr p) : ∃ b, portolanref03_Great p = some b := by
  have h0 : okF0 p := hp.1
  unfold okF0 at h0
  have hin : ∀ (i : Nat) (f : Func), okFn f → ∀ (j : Nat) (b : Block), f.Blocks[j]? = some b → ∀ x : Int, 0 ≤ x → x ≤ 281474976710656000 → ∃ o, whileF (portolanref03_Great.b3 f j) 18446744073709551616 (x, 0) = some o ∧ ∃ s, o = .brk s ∧ 0 ≤ s.1 ∧ s.1 ≤ 562949953421312000 := by
    intro i f hf j b hb x hx0 hx1
    have hbm := List.mem_of_getElem? hb
    have hbl := hf.1.2.2.2 b hbm
    refine whileF_rule (body := portolanref03_Great.b3 f j) (fun s => 0 ≤ s.1 ∧ s.1 ≤ 562949953421312000 ∧ ∃ k : Nat, s.2 = (k : Int) ∧ k ≤ b.Code.length) (fun s => (b.Code.length - s.2).toNat) _ (fun s hs => ?_) 18446744073709551616 (x, 0) ⟨hx0, by simp only; omega, 0, rfl, by omega⟩ (by simp only; omega)
    obtain ⟨y, z⟩ := s
    obtain ⟨h1, h2, k, rfl, hk⟩ := hs
    simp only [portolanref03_Great.b3, ixL_of hb, Option.bind_some]
    by_cases hkl : k < b.Code.length
    · have e1 : (k : Int) < b.Code.length := by omega
      by_cases h3 : y ≤ 3000
      · have ha := hf.2 b hbm _ (List.getElem_mem hkl)
        unfold okI0 at ha
        simp only at h1 h2
        simp only [e1, decide_true, ↓reduceIte, h3, portolanref03_Great.j1, ixL_of hb, Option.bind_some, ixL_lt hkl]
        refine ⟨_, rfl, ⟨?_, ?_, k + 1, ?_, by omega⟩, ?_⟩ <;> simp only
        · rw [w64_id (by omega) (by omega)]; omega
        · rw [w64_id (by omega) (by omega)]; omega
        · rw [w64_id (by omega) (by omega)]; rfl
        · rw [w64_id (by omega) (by omega)]; omega
      · simp only [e1, decide_true, ↓reduceIte, h3, portolanref03_Great.j1, decide_false, Bool.false_eq_true]
        exact ⟨_, rfl, _, rfl, h1, h2⟩
    · have e1 : ¬ (k : Int) < b.Code.length := by omega
      simp only [e1, decide_false, Bool.false_eq_true, ↓reduceIte, portolanref03_Great.j1]
      exact ⟨_, rfl, _, rfl, h1, h2⟩
  obtain ⟨o, ho, s, hs⟩ := forN_rule (body := portolanref03_Great.b1 p) (s := (p.Funcs.length : Int)) (n := p.Funcs.length) (fun _ x => 0 ≤ x ∧ x ≤ 562949953421312000) (fun o => ∃ s, o = .next s ∨ o = .brk s) (by omega) ⟨by omega, by omega⟩ (fun j s hj hI => by
    have hF := hp.2 _ (List.getElem_mem hj)
    have hk := hF.1.1
    have hb := hF.1.2.1
    have hl := hF.1.2.2.1
    simp only [portolanref03_Great.b1]
    by_cases h3 : s ≤ 3000
    · simp only [h3, decide_true, ↓reduceIte, ixL_lt hj, Option.bind_some]
      rw [w64_id (n := s + (p.Funcs[j].Kinds.length : Int)) (by omega) (by omega), w64_id (n := s + (p.Funcs[j].Kinds.length : Int) + (p.Funcs[j].Base.length : Int)) (by omega) (by omega), w64_id (n := s + (p.Funcs[j].Kinds.length : Int) + (p.Funcs[j].Base.length : Int) + (p.Funcs[j].Blocks.length : Int)) (by omega) (by omega)]
      obtain ⟨o, ho, s', hs, h1, h2⟩ := forN_rule (body := portolanref03_Great.b2 p.Funcs[j]) (s := s + (p.Funcs[j].Kinds.length : Int) + (p.Funcs[j].Base.length : Int) + (p.Funcs[j].Blocks.length : Int)) (n := p.Funcs[j].Blocks.length) (fun _ x => 0 ≤ x ∧ x ≤ 562949953421312000) (fun o => ∃ s, (o = .next s ∨ o = .brk s) ∧ 0 ≤ s ∧ s ≤ 562949953421312000) (by omega) ⟨by omega, by omega⟩ (fun i y hi hI2 => by
        have hcl := hF.1.2.2.2 _ (List.getElem_mem hi)
        simp only [portolanref03_Great.b2]
        by_cases h4 : y ≤ 3000
        · simp only [h4, decide_true, ↓reduceIte, ixL_lt hi, Option.bind_some]
          rw [w64_id (by omega) (by omega)]
          obtain ⟨o, ho, s, rfl, h5, h6⟩ := hin j p.Funcs[j] hF i _ (List.getElem?_eq_getElem hi) (y + (p.Funcs[j].Blocks[i].Code.length : Int)) (by omega) (by omega)
          rw [aft_brk ho]
          exact ⟨_, rfl, h5, h6⟩
        · simp only [h4, decide_false, Bool.false_eq_true, ↓reduceIte]
          exact ⟨_, rfl, _, .inr rfl, hI2.1, hI2.2⟩) (fun s h => ⟨s, .inl rfl, h.1, h.2⟩)
      rcases hs with rfl | rfl
      · rw [aft_next ho]; exact ⟨_, rfl, h1, h2⟩
      · rw [aft_brk ho]; exact ⟨_, rfl, h1, h2⟩
    · simp only [h3, decide_false, Bool.false_eq_true, ↓reduceIte]
      exact ⟨_, rfl, _, .inr rfl⟩) (fun s _ => ⟨s, .inl rfl⟩)
  unfold portolanref03_Great
  rcases hs with rfl | rfl
  · rw [aft_next ho]; exact ⟨_, rfl⟩
  · rw [aft_brk ho]; exact ⟨_, rfl⟩
end Go.Pf
end
section
/- The plain laws of shapes. -/
namespace Go.Pf
open Go.Pp

theorem forN_ok {R : Type} {body : Nat → Unit → Option (LR Unit R)} {n : Nat} (hn : n ≤ 4611686018427387904) (h : ∀ j, j < n → body j () = some (.next ())) : forN (n : Int) body () = some (.next ()) := by
  obtain ⟨o, ho, rfl⟩ := forN_rule (body := body) (s := ()) (n := n) (fun _ _ => True) (fun o => o = .next ()) hn trivial (fun j s hj _ => ⟨_, h j hj, trivial⟩) (fun _ _ => rfl)
  exact ho
theorem ShapeChecks_plain {p : Prog} (hp : okPr p) : portolanlaw04_ShapeChecks p = some true := by
  have h0 : okF0 p := hp.1
  unfold okF0 at h0
  unfold portolanlaw04_ShapeChecks portolanlaw04_alive
  obtain ⟨b, hb⟩ := great_t hp
  simp only [Option.bind_some, ↓reduceIte, hb]
  cases b
  · simp only [Bool.false_eq_true, ↓reduceIte]
    rw [aft_next (forN_ok (by omega) (fun j hj => by
      simp only [portolanlaw04_ShapeChecks.b1, ixL_lt hj, Option.bind_some, func_s (hp.2 _ (List.getElem_mem hj)).1, func_r (hp.2 _ (List.getElem_mem hj)).1, beq_self_eq_true, ↓reduceIte]))]
    unfold portolanlaw04_ShapeChecks.k1
    rw [check_s hp, Option.bind_some, check_r hp, Option.bind_some]
    simp
  · rfl
theorem ints_same {l : List Int} (h : l.length ≤ 4611686018427387904) : portolanref01_Ints l l = some true := by
  unfold portolanref01_Ints
  simp only [bne_self_eq_false, Bool.false_eq_true, ↓reduceIte]
  rw [aft_next (forN_ok (by omega) (fun j hj => by simp [portolanref01_Ints.b1, ixL_lt hj]))]
  rfl
theorem ShapeIns_plain {p : Prog} {fi : Int} {x : Ins} (hp : okPr p) (hx : okI0 x) : portolanlaw04_ShapeIns p fi x = some true := by
  unfold portolanlaw04_ShapeIns portolanlaw04_alive
  obtain ⟨b, hb⟩ := great_t hp
  have hj : ∀ c, portolanlaw04_ShapeIns.j1 p fi x c = some true := by
    intro c
    unfold portolanlaw04_ShapeIns.j1
    cases c
    · have := use_len hx
      have := next_len x
      simp only [Bool.false_eq_true, ↓reduceIte, sets_s, sets_r, ins_s hp hx, ins_r hp hx, last_s, last_r, use_s hx, use_r hx, next_s, next_r, Option.bind_some, beq_self_eq_true, ints_same (l := useS x) (by omega), ints_same (l := nextS x) (by omega)]
    · rfl
  simp only [Option.bind_some, ↓reduceIte, hb, hj]
  cases b <;> rfl

theorem check_parts {p : Prog} (h : checkS p = true) : (∀ (i : Nat) (hi : i < p.Funcs.length), funcS p.Funcs[i] = true ∧ codeS p (i : Int) p.Funcs[i] = true) ∧ headS p = true := by
  unfold checkS at h
  rw [Bool.and_eq_true, List.all_eq_true] at h
  refine ⟨fun i hi => ?_, h.1⟩
  have := h.2 i (by simpa using hi)
  unfold okAt at this
  rw [List.getElem?_eq_getElem hi] at this
  simpa using this
theorem func_blocks {f : Func} (h : funcS f = true) : 1 ≤ f.Blocks.length ∧ f.Params ≤ f.Kinds.length ∧ ∀ b ∈ f.Blocks, 1 ≤ b.Code.length ∧ ∀ (i : Nat) (hi : i < b.Code.length), lastS b.Code[i].Op = ((i : Int) == nQ b.Code.length) := by
  unfold funcS at h
  simp only [Bool.and_eq_true] at h
  obtain ⟨_, hp, _, _, hb, hall⟩ := h
  unfold wI at hp hb
  have hp := of_decide_eq_true hp
  have hb := of_decide_eq_true hb
  refine ⟨by omega, by split at hp <;> omega, fun b hbm => ?_⟩
  have := List.all_eq_true.1 hall b hbm
  unfold blockS at this
  rw [Bool.and_eq_true, List.all_eq_true] at this
  obtain ⟨h1, h2⟩ := this
  unfold wI at h1
  have h1 := of_decide_eq_true h1
  refine ⟨by omega, fun i hi => ?_⟩
  have := h2 i (by simpa using hi)
  unfold lastAt at this
  rw [List.getElem?_eq_getElem hi] at this
  exact eq_of_beq this
theorem code_ins {p : Prog} {i : Nat} {hi : i < p.Funcs.length} (h : codeS p (i : Int) p.Funcs[i] = true) {b : Block} (hb : b ∈ p.Funcs[i].Blocks) {x : Ins} (hx : x ∈ b.Code) : inF p.Funcs[i] x = true := by
  unfold codeS at h
  have := List.all_eq_true.1 (List.all_eq_true.1 h b hb) x hx
  unfold insS at this
  rw [ixL_lt hi] at this
  simp only [Bool.and_eq_true] at this
  exact this.2.2.2.2
theorem inF_next {f : Func} {x : Ins} (h : inF f x = true) : ∀ v ∈ nextS x, 1 ≤ v ∧ v < f.Blocks.length := by
  unfold inF at h
  rw [Bool.and_eq_true] at h
  intro v hv
  have := List.all_eq_true.1 h.2 v hv
  unfold wI nQ at this
  have := of_decide_eq_true this
  omega
theorem inF_use {f : Func} {x : Ins} (h : inF f x = true) : ∀ v ∈ useS x, 0 ≤ v ∧ v < f.Kinds.length := by
  unfold inF at h
  rw [Bool.and_eq_true] at h
  intro v hv
  have := List.all_eq_true.1 h.1 v (by unfold touchS; exact List.mem_append.2 (.inl hv))
  unfold wI nQ at this
  have := of_decide_eq_true this
  omega
theorem next_last (x : Ins) : (0 < (nextS x).length → lastS x.Op = true) ∧ ((nextS x).length = 0 → lastS x.Op = true → x.Op = 23) := by
  unfold nextS lastS wI
  by_cases h1 : x.Op = 21
  · simp [h1]
  · by_cases h2 : x.Op = 22
    · simp only [h2]
      constructor
      · intro _; decide
      · intro h; exfalso; revert h; simp; (repeat' split) <;> simp
    · simp [h1, h2]; omega
theorem ShapeLasts_plain {p : Prog} (hp : okPr p) : portolanlaw04_ShapeLasts p = some true := by
  have h0 : okF0 p := hp.1
  unfold okF0 at h0
  unfold portolanlaw04_ShapeLasts portolanlaw04_alive
  obtain ⟨b, hb⟩ := great_t hp
  simp only [Option.bind_some, ↓reduceIte, hb, check_s hp]
  cases b
  rotate_left
  · rfl
  simp only [Bool.false_eq_true, ↓reduceIte]
  cases hc : checkS p
  · rfl
  simp only [↓reduceIte, show ((0 : Int) != 0) = false by decide]
  unfold portolanlaw04_ShapeLasts.j1
  simp only [Bool.false_eq_true, ↓reduceIte]
  obtain ⟨hcp, _⟩ := check_parts hc
  rw [aft_next (forN_ok (by omega) (fun i hi => by
    obtain ⟨hfu, hco⟩ := hcp i hi
    have hF := hp.2 _ (List.getElem_mem hi)
    have hbl := hF.1.2.2.1
    simp only [portolanlaw04_ShapeLasts.b1, ixL_lt hi, Option.bind_some]
    rw [aft_next (forN_ok (by omega) (fun j hj => by
      have hbm := List.getElem_mem hj
      obtain ⟨hlen, hlast⟩ := (func_blocks hfu).2.2 _ hbm
      have hcl := hF.1.2.2.2 _ hbm
      simp only [portolanlaw04_ShapeLasts.b2, ixL_lt hj, Option.bind_some]
      rw [aft_next (forN_ok (by omega) (fun k hk => by
        have hxm := List.getElem_mem hk
        have hin := code_ins hco hbm hxm
        have hx0 := hF.2 _ hbm _ hxm
        have hl := hlast k hk
        have hj2 : portolanlaw04_ShapeLasts.j2 p.Funcs[i] p.Funcs[i].Blocks[j] (nextS p.Funcs[i].Blocks[j].Code[k]) k = some (.next ()) := by
          unfold portolanlaw04_ShapeLasts.j2
          have := next_len p.Funcs[i].Blocks[j].Code[k]
          rw [aft_next (forN_ok (by omega) (fun m hm => by
            have hv := inF_next hin _ (List.getElem_mem hm)
            have e1 : ¬ (nextS p.Funcs[i].Blocks[j].Code[k])[m] < 1 := by omega
            have e2 : ¬ (p.Funcs[i].Blocks.length : Int) ≤ (nextS p.Funcs[i].Blocks[j].Code[k])[m] := by omega
            simp only [portolanlaw04_ShapeLasts.b4, ixL_lt hm, Option.bind_some, e1, e2, decide_false, Bool.false_eq_true, ↓reduceIte]))]
          unfold portolanlaw04_ShapeLasts.k4
          have := use_len hx0
          simp only [ixL_lt hk, Option.bind_some, use_s hx0]
          rw [aft_next (forN_ok (by omega) (fun m hm => by
            have hv := inF_use hin _ (List.getElem_mem hm)
            have e1 : ¬ (useS p.Funcs[i].Blocks[j].Code[k])[m] < 0 := by omega
            have e2 : ¬ (p.Funcs[i].Kinds.length : Int) ≤ (useS p.Funcs[i].Blocks[j].Code[k])[m] := by omega
            simp only [portolanlaw04_ShapeLasts.b5, ixL_lt hm, Option.bind_some, e1, e2, decide_false, Bool.false_eq_true, ↓reduceIte]))]
          rfl
        obtain ⟨hn1, hn2⟩ := next_last p.Funcs[i].Blocks[j].Code[k]
        simp only [portolanlaw04_ShapeLasts.b3, ixL_lt hk, Option.bind_some, next_s, last_s, w64L hcl, hl, beq_self_eq_true, ↓reduceIte, hj2]
        rw [hl] at hn1 hn2
        by_cases hnz : (nextS p.Funcs[i].Blocks[j].Code[k]).length = 0
        · have e1 : ¬ (0 < ((nextS p.Funcs[i].Blocks[j].Code[k]).length : Int)) := by omega
          have e2 : (((nextS p.Funcs[i].Blocks[j].Code[k]).length : Int) == 0) = true := by simp; exact List.length_eq_zero_iff.1 hnz
          simp only [e1, decide_false, Bool.false_eq_true, ↓reduceIte, e2]
          cases hkq : ((k : Int) == nQ p.Funcs[i].Blocks[j].Code.length)
          · simp
          · have h23 := hn2 hnz hkq
            simp [h23]
        · have e1 : (0 < ((nextS p.Funcs[i].Blocks[j].Code[k]).length : Int)) := by omega
          have e2 : (((nextS p.Funcs[i].Blocks[j].Code[k]).length : Int) == 0) = false := by
            rw [← Bool.not_eq_true]; intro h; have := eq_of_beq h; omega
          have hkq := eq_of_beq (hn1 (by omega))
          have e3 : ¬ ((k : Int) < nQ p.Funcs[i].Blocks[j].Code.length) := by omega
          simp only [e1, decide_true, ↓reduceIte, e2, Bool.false_eq_true, e3, decide_false]))]
      rfl))]
    rfl))]
  rfl
theorem ShapeFirst_plain {p : Prog} (hp : okPr p) : portolanlaw04_ShapeFirst p = some true := by
  have h0 : okF0 p := hp.1
  unfold okF0 at h0
  unfold portolanlaw04_ShapeFirst portolanlaw04_alive
  obtain ⟨b, hb⟩ := great_t hp
  simp only [Option.bind_some, ↓reduceIte, hb, check_s hp]
  cases b
  rotate_left
  · rfl
  simp only [Bool.false_eq_true, ↓reduceIte]
  cases hc : checkS p
  · rfl
  simp only [↓reduceIte, show ((0 : Int) != 0) = false by decide]
  unfold portolanlaw04_ShapeFirst.j1
  simp only [Bool.false_eq_true, ↓reduceIte]
  obtain ⟨hcp, hhd⟩ := check_parts hc
  rw [aft_next (forN_ok (by omega) (fun i hi => by
    obtain ⟨hfu, hco⟩ := hcp i hi
    have hF := hp.2 _ (List.getElem_mem hi)
    have hbl := hF.1.2.2.1
    obtain ⟨hb1, hpk, hbs⟩ := func_blocks hfu
    have e1 : ((p.Funcs[i].Blocks.length : Int) == 0) = false := by rw [← Bool.not_eq_true]; intro h; have := eq_of_beq h; omega
    have e2 : ¬ ((p.Funcs[i].Kinds.length : Int) < p.Funcs[i].Params) := by omega
    simp only [portolanlaw04_ShapeFirst.b1, ixL_lt hi, Option.bind_some, e1, Bool.false_eq_true, ↓reduceIte, e2, decide_false, portolanlaw04_ShapeFirst.j2]
    rw [aft_next (forN_ok (by omega) (fun j hj => by
      have hbm := List.getElem_mem hj
      obtain ⟨hlen, hlast⟩ := hbs _ hbm
      have hcl := hF.1.2.2.2 _ hbm
      have hk : p.Funcs[i].Blocks[j].Code.length - 1 < p.Funcs[i].Blocks[j].Code.length := by omega
      have hix : ixL p.Funcs[i].Blocks[j].Code (nQ p.Funcs[i].Blocks[j].Code.length) = some p.Funcs[i].Blocks[j].Code[p.Funcs[i].Blocks[j].Code.length - 1] := by
        rw [← ixL_lt hk]; congr 1; unfold nQ; omega
      have hl := hlast _ hk
      have hkq : (((p.Funcs[i].Blocks[j].Code.length - 1 : Nat) : Int) == nQ p.Funcs[i].Blocks[j].Code.length) = true := by unfold nQ; simp; omega
      have hin := code_ins hco hbm (List.getElem_mem hk)
      have e3 : ((p.Funcs[i].Blocks[j].Code.length : Int) == 0) = false := by rw [← Bool.not_eq_true]; intro h; have := eq_of_beq h; omega
      have := next_len p.Funcs[i].Blocks[j].Code[p.Funcs[i].Blocks[j].Code.length - 1]
      simp only [portolanlaw04_ShapeFirst.b2, ixL_lt hj, Option.bind_some, e3, Bool.false_eq_true, ↓reduceIte, w64L hcl, hix, last_s, hl, hkq, Bool.not_true, portolanlaw04_ShapeFirst.j3, next_s]
      rw [aft_next (forN_ok (by omega) (fun m hm => by
        have hv := inF_next hin _ (List.getElem_mem hm)
        have e4 : ((nextS p.Funcs[i].Blocks[j].Code[p.Funcs[i].Blocks[j].Code.length - 1])[m] == 0) = false := by rw [← Bool.not_eq_true]; intro h; have := eq_of_beq h; omega
        simp only [portolanlaw04_ShapeFirst.b3, ixL_lt hm, Option.bind_some, e4, Bool.false_eq_true, ↓reduceIte]))]
      rfl))]
    rfl))]
  unfold portolanlaw04_ShapeFirst.k1
  unfold headS at hhd
  rw [Bool.and_eq_true] at hhd
  cases h1 : p.Funcs[0]? with
  | none => rw [h1] at hhd; simp at hhd
  | some f =>
    rw [h1] at hhd
    simp only [Bool.and_eq_true] at hhd
    rw [show ixL p.Funcs 0 = some f from ixL_of (i := 0) h1, Option.bind_some, hhd.2.1]
end Go.Pf
end
