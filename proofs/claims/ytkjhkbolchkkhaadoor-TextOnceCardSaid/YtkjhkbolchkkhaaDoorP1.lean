/- The plain law, part 1 -/
import Derived.Test.YtkjhkbolchkkhaaDoorU1
set_option linter.all false
section
/- Plain lemmas on the plain words: loops over lists, rows, whole numbers of 64 bits. -/
namespace Go.Pp
variable {α S R T : Type}

theorem forF_rule {body : Nat → S → Option (LR S R)} (I : Nat → S → Prop) (Q : LR S R → Prop) :
    ∀ (k i : Nat) (s : S), I i s →
    (∀ j s, i ≤ j → j < i + k → I j s → ∃ o, body j s = some o ∧ (match o with | .next s' => I (j+1) s' | .brk s' => Q (.brk s') | .ret r => Q (.ret r))) →
    (∀ s, I (i+k) s → Q (.next s)) → ∃ o, forF body k i s = some o ∧ Q o
  | 0, i, s, hI, _, he => ⟨.next s, rfl, he s hI⟩
  | k+1, i, s, hI, hs, he => by
    obtain ⟨o, ho, hm⟩ := hs i s (Nat.le_refl _) (by omega) hI
    unfold forF; rw [ho]
    cases o with
    | next s' => exact forF_rule I Q k (i+1) s' hm (fun j s h1 h2 => hs j s (by omega) (by omega)) (fun s h => he s (by rw [show i + (k+1) = i+1+k by omega]; exact h))
    | brk s' => exact ⟨_, rfl, hm⟩
    | ret r => exact ⟨_, rfl, hm⟩
theorem forN_rule {body : Nat → S → Option (LR S R)} (I : Nat → S → Prop) (Q : LR S R → Prop) {n : Nat} {s : S} (hn : n ≤ 4611686018427387904) (h0 : I 0 s)
    (hs : ∀ j s, j < n → I j s → ∃ o, body j s = some o ∧ (match o with | .next s' => I (j+1) s' | .brk s' => Q (.brk s') | .ret r => Q (.ret r)))
    (he : ∀ s, I n s → Q (.next s)) : ∃ o, forN (n : Int) body s = some o ∧ Q o := by
  unfold forN
  rw [if_pos (by omega), Int.toNat_natCast]
  exact forF_rule I Q n 0 s h0 (fun j s _ h => hs j s (by omega)) (by simpa using he)
theorem forN_zero {body : Nat → S → Option (LR S R)} {E : Int} (s : S) (h : E ≤ 0) : forN E body s = some (.next s) := by
  unfold forN; rw [if_pos (by omega), show E.toNat = 0 by omega]; rfl
theorem whileF_rule {body : S → Option (LR S R)} (I : S → Prop) (μ : S → Nat) (Q : LR S R → Prop)
    (hs : ∀ s, I s → ∃ o, body s = some o ∧ (match o with | .next s' => I s' ∧ μ s' < μ s | .brk s' => Q (.brk s') | .ret r => Q (.ret r))) :
    ∀ (k : Nat) (s : S), I s → μ s < k → ∃ o, whileF body k s = some o ∧ Q o
  | 0, s, _, h => by omega
  | k+1, s, hI, hk => by
    obtain ⟨o, ho, hm⟩ := hs s hI
    unfold whileF; rw [ho]
    cases o with
    | next s' => exact whileF_rule I μ Q hs k s' hm.1 (by have := hm.2; omega)
    | brk s' => exact ⟨_, rfl, hm⟩
    | ret r => exact ⟨_, rfl, hm⟩

/-- the first place that answers -/
def firstI (g : Nat → Option R) : Nat → Nat → Option R
  | 0, _ => none
  | k+1, i => match g i with | some r => some r | none => firstI g k (i+1)
def lrO : Option R → LR Unit R
  | none => .next ()
  | some r => .ret r
theorem forF_first {body : Nat → Unit → Option (LR Unit R)} {g : Nat → Option R} : ∀ (k i : Nat),
    (∀ j, i ≤ j → j < i + k → (∀ m, i ≤ m → m < j → g m = none) → body j () = some (lrO (g j))) → forF body k i () = some (lrO (firstI g k i))
  | 0, i, _ => rfl
  | k+1, i, h => by
    have h1 := h i (Nat.le_refl _) (by omega) (fun m _ _ => by omega)
    unfold forF firstI
    rw [h1]
    cases hg : g i with
    | some r => simp [lrO]
    | none =>
      simp only [lrO]
      exact forF_first k (i+1) (fun j h1 h2 h3 => h j (by omega) (by omega) (fun m hm1 hm2 => by
        by_cases hmi : m = i
        · subst hmi; exact hg
        · exact h3 m (by omega) hm2))
theorem firstI_none {g : Nat → Option R} : ∀ {k i : Nat}, firstI g k i = none ↔ ∀ j, i ≤ j → j < i + k → g j = none
  | 0, i => by simp [firstI]; omega
  | k+1, i => by
    unfold firstI
    cases hg : g i with
    | some r =>
      constructor
      · intro h; cases h
      · intro h; have := h i (by omega) (by omega); rw [hg] at this; cases this
    | none =>
      simp only [firstI_none (k := k)]
      constructor
      · intro h j h1 h2
        by_cases hj : j = i
        · subst hj; exact hg
        · exact h j (by omega) (by omega)
      · intro h j h1 h2; exact h j (by omega) (by omega)
/-- a loop that only looks, and may answer no -/
theorem forN_allI {body : Nat → Unit → Option (LR Unit R)} {p : Nat → Bool} {r : R} {n : Nat} (hn : n ≤ 4611686018427387904)
    (h : ∀ j, j < n → (∀ m, m < j → p m = true) → body j () = some (if p j then .next () else .ret r)) :
    forN (n : Int) body () = some (if (List.range n).all p then .next () else .ret r) := by
  obtain ⟨o, ho, hq⟩ := forN_rule (body := body) (s := ()) (n := n) (fun j _ => ∀ m, m < j → p m = true) (fun o => o = (if (List.range n).all p then .next () else .ret r)) hn (fun _ h => by omega)
    (fun j s hj hI => by
      refine ⟨_, h j hj hI, ?_⟩
      cases hp : p j
      · simp only [Bool.false_eq_true, ↓reduceIte]
        rw [if_neg]
        intro ha
        have := List.all_eq_true.1 ha j (by simpa using hj)
        rw [hp] at this; cases this
      · simp only [↓reduceIte]
        intro m hm
        by_cases hmj : m = j
        · subst hmj; exact hp
        · exact hI m (by omega))
    (fun s hI => by
      rw [if_pos]
      exact List.all_eq_true.2 fun x hx => hI x (by simpa using hx))
  rw [ho, hq]
theorem all_range {l : List α} {p : α → Bool} {q : Nat → Bool} (h : ∀ i x, l[i]? = some x → q i = p x) : (List.range l.length).all q = l.all p := by
  rw [Bool.eq_iff_iff, List.all_eq_true, List.all_eq_true]
  constructor
  · intro H x hx
    obtain ⟨i, hi, rfl⟩ := List.mem_iff_getElem.1 hx
    rw [← h i _ (List.getElem?_eq_getElem hi)]
    exact H i (by simpa using hi)
  · intro H i hi
    have hi' : i < l.length := by simpa using hi
    rw [h i _ (List.getElem?_eq_getElem hi')]
    exact H _ (List.getElem_mem hi')
theorem ixL_of {l : List α} {i : Nat} {x : α} (h : l[i]? = some x) : ixL l (i : Int) = some x := by
  unfold ixL; rw [if_pos (by omega), Int.toNat_natCast]; exact h
theorem ixL_lt {l : List α} {i : Nat} (h : i < l.length) : ixL l (i : Int) = some l[i] := ixL_of (List.getElem?_eq_getElem h)
theorem ixL_int {l : List α} {i : Int} (h0 : 0 ≤ i) (h : i < l.length) : ixL l i = some (l[i.toNat]'(by omega)) := by
  unfold ixL; rw [if_pos h0]; exact List.getElem?_eq_getElem (by omega)
theorem forN_all {l : List α} {body : Nat → Unit → Option (LR Unit R)} {p : α → Bool} {r : R} (hn : l.length ≤ 4611686018427387904)
    (h : ∀ i x, l[i]? = some x → body i () = some (if p x then .next () else .ret r)) :
    forN (l.length : Int) body () = some (if l.all p then .next () else .ret r) := by
  rw [← all_range (q := fun i => match l[i]? with | some x => p x | none => true) (fun i x hx => by simp [hx])]
  refine forN_allI hn fun j hj _ => ?_
  rw [h j _ (List.getElem?_eq_getElem hj)]
  simp [List.getElem?_eq_getElem hj]
theorem forN_any {l : List α} {body : Nat → Unit → Option (LR Unit R)} {p : α → Bool} {r : R} (hn : l.length ≤ 4611686018427387904)
    (h : ∀ i x, l[i]? = some x → body i () = some (if p x then .ret r else .next ())) :
    forN (l.length : Int) body () = some (if l.any p then .ret r else .next ()) := by
  rw [forN_all (p := fun x => !p x) (r := r) hn (fun i x hx => by rw [h i x hx]; cases p x <;> rfl)]
  rw [← List.not_any_eq_all_not]
  cases l.any p <;> rfl
/-- a loop that goes on to the end -/
theorem forN_fold {l : List α} {body : Nat → S → Option (LR S R)} {f : S → α → S} (P : Nat → S → Prop) {s : S} (hn : l.length ≤ 4611686018427387904) (h0 : P 0 s)
    (h : ∀ i x s, l[i]? = some x → P i s → body i s = some (.next (f s x)) ∧ P (i+1) (f s x)) :
    forN (l.length : Int) body s = some (.next (l.foldl f s)) ∧ P l.length (l.foldl f s) := by
  obtain ⟨o, ho, hq⟩ := forN_rule (body := body) (s := s) (n := l.length) (fun j s' => s' = (l.take j).foldl f s ∧ P j s') (fun o => o = .next (l.foldl f s) ∧ P l.length (l.foldl f s)) hn ⟨by simp, h0⟩
    (fun j s' hj hI => by
      have hx := List.getElem?_eq_getElem hj
      obtain ⟨h1, h2⟩ := h j _ s' hx hI.2
      refine ⟨_, h1, ?_, h2⟩
      rw [List.take_add_one, hx, List.foldl_append, ← hI.1]; rfl)
    (fun s' hI => by rw [List.take_length] at hI; exact ⟨by rw [hI.1], by rw [← hI.1]; exact hI.2⟩)
  exact ⟨by rw [ho, hq.1], hq.2⟩
/-- a loop that appends -/
theorem forN_app {l : List α} {β : Type} {body : Nat → List β → Option (LR (List β) R)} {g : α → List β} {s : List β} (K M : Nat) (hn : l.length ≤ 4611686018427387904)
    (hM : s.length + l.length * K ≤ M) (hg : ∀ x ∈ l, (g x).length ≤ K)
    (h : ∀ i x (s' : List β), l[i]? = some x → s'.length + K ≤ M → body i s' = some (.next (s' ++ g x))) :
    forN (l.length : Int) body s = some (.next (s ++ l.flatMap g)) ∧ (s ++ l.flatMap g).length ≤ s.length + l.length * K := by
  have := forN_fold (body := body) (f := fun s x => s ++ g x) (s := s) (fun i s' => s'.length ≤ s.length + i * K ∧ i ≤ l.length) hn ⟨by omega, by omega⟩ (fun i x s' hx hP => by
    have hi := (List.getElem?_eq_some_iff.1 hx).1
    have hm : i * K + K ≤ l.length * K := by have := Nat.mul_le_mul_right K (show i + 1 ≤ l.length from hi); rw [Nat.add_mul] at this; omega
    have hgx := hg x (List.mem_of_getElem? hx)
    refine ⟨h i x s' hx (by omega), ?_, by omega⟩
    rw [List.length_append, Nat.add_mul]; omega)
  have he : l.foldl (fun s x => s ++ g x) s = s ++ l.flatMap g := by
    clear this hM h hn hg
    induction l generalizing s with
    | nil => simp
    | cons a l ih => simp [ih]
  rw [he] at this
  exact ⟨this.1, this.2.1⟩
theorem appL_ok {b : Nat} {l r : List α} (h : (l.length + r.length) * b ≤ 140737488355328) : appL b l r = some (l ++ r) := by unfold appL; rw [if_pos h]
theorem tailL_ok {l : List α} {lo : Int} (h0 : 0 ≤ lo) (h : lo ≤ l.length) : tailL l lo = some (l.drop lo.toNat) := by unfold tailL; rw [if_pos ⟨h0, h⟩]
theorem headL_ok {l : List α} {lo : Int} (h0 : 0 ≤ lo) (h : lo ≤ l.length) : headL l lo = some (l.take lo.toNat) := by unfold headL; rw [if_pos ⟨h0, h⟩]
theorem cutL_ok {l : List α} {lo hi : Int} (h0 : 0 ≤ lo) (h1 : lo ≤ hi) (h2 : hi ≤ l.length) : cutL l lo hi = some ((l.drop lo.toNat).take (hi.toNat - lo.toNat)) := by unfold cutL; rw [if_pos ⟨h0, h1, h2⟩]
theorem w64_id {n : Int} (h1 : -9223372036854775808 ≤ n) (h2 : n ≤ 9223372036854775807) : w64 n = n := by unfold w64; simp only []; split <;> omega
theorem u64_id {n : Int} (h1 : 0 ≤ n) (h2 : n ≤ 18446744073709551615) : u64 n = n := by unfold u64; omega
theorem u8_id {n : Int} (h1 : 0 ≤ n) (h2 : n ≤ 255) : u8 n = n := by unfold u8; omega
theorem iteS {c : Prop} [Decidable c] {a b : α} : (if c then some a else some b) = some (if c then a else b) := by by_cases h : c <;> simp [h]
theorem aft_next {o : Option (LR S R)} {k : S → Option T} {r : R → Option T} {s : S} (h : o = some (.next s)) : aft o k r = k s := by rw [h]; rfl
theorem aft_brk {o : Option (LR S R)} {k : S → Option T} {r : R → Option T} {s : S} (h : o = some (.brk s)) : aft o k r = k s := by rw [h]; rfl
theorem aft_ret {o : Option (LR S R)} {k : S → Option T} {r : R → Option T} {s : R} (h : o = some (.ret s)) : aft o k r = r s := by rw [h]; rfl
theorem aft_if {c : Prop} [Decidable c] {o : Option (LR S R)} {k : S → Option T} {r : R → Option T} {s : S} {x : R} (h : o = some (if c then .next s else .ret x)) : aft o k r = if c then k s else r x := by
  rw [h]; by_cases hc : c <;> simp [hc, aft]
theorem aft_if2 {c : Prop} [Decidable c] {o : Option (LR S R)} {k : S → Option T} {r : R → Option T} {s : S} {x : R} (h : o = some (if c then .ret x else .next s)) : aft o k r = if c then r x else k s := by
  rw [h]; by_cases hc : c <;> simp [hc, aft]
/-- two rows, entry by entry -/
theorem forN_same {l m : List α} [DecidableEq α] {body : Nat → Unit → Option (LR Unit R)} {r : R} (hn : l.length ≤ 4611686018427387904) (hl : l.length = m.length)
    (h : ∀ i x y, l[i]? = some x → m[i]? = some y → body i () = some (if x = y then .next () else .ret r)) :
    forN (l.length : Int) body () = some (if l = m then .next () else .ret r) := by
  rw [forN_allI (p := fun i => decide (l[i]? = m[i]?)) (r := r) hn (fun j hj _ => by
    have hj2 : j < m.length := by omega
    rw [h j _ _ (List.getElem?_eq_getElem hj) (List.getElem?_eq_getElem hj2)]
    simp [List.getElem?_eq_getElem hj, List.getElem?_eq_getElem hj2])]
  congr 1
  have : ((List.range l.length).all fun i => decide (l[i]? = m[i]?)) = decide (l = m) := by
    rw [Bool.eq_iff_iff, List.all_eq_true, decide_eq_true_iff]
    constructor
    · intro H
      refine List.ext_getElem? fun i => ?_
      by_cases hi : i < l.length
      · simpa using H i (by simpa using hi)
      · rw [List.getElem?_eq_none (by omega), List.getElem?_eq_none (by omega)]
    · rintro rfl; simp
  rw [this]
  simp
end Go.Pp
end
section
/- Texts: what may be, the same by the program and by the document. -/
namespace Go.Pf
open Go.Pp

/-- an operation's letters -/
def PS (op : Int) : ByteArray × Bool := (text_Parts op).getD ({ data := #[] }, false)
def LS (op : Int) : List Int := sbytes (PS op).1
theorem parts_fin : ∀ n : Fin 26, (text_Parts (n.val : Int)).isSome = true ∧ portolanref19_Parts (n.val : Int) = text_Parts (n.val : Int) := by decide +kernel
theorem parts_out {op : Int} (h : ¬ (0 ≤ op ∧ op < 26)) : text_Parts op = some ({ data := #[] }, false) ∧ portolanref19_Parts op = some ({ data := #[] }, false) := by
  have hc : code_Parts op = some ({ data := #[] } : ByteArray) := by
    unfold code_Parts
    by_cases h0 : op < 0
    · simp [h0]
    · have : 24 ≤ op := by omega
      simp [h0, this]
  have hd : portolanref03_Parts op = some ({ data := #[] } : ByteArray) := by
    have e : ∀ k : Int, 0 ≤ k → k < 26 → (op == k) = false := fun k h1 h2 => by simp; omega
    simp [portolanref03_Parts, portolanref03_Parts.j1, portolanref03_Parts.j2, portolanref03_Parts.j3, portolanref03_Parts.j4, portolanref03_Parts.j5, e]
  have e : ∀ k : Int, 0 ≤ k → k < 26 → (op == k) = false := fun k h1 h2 => by simp; omega
  constructor
  · simp [text_Parts, e, hc]
  · simp [portolanref19_Parts, e, hd]
theorem fin_of {op : Int} (h : 0 ≤ op ∧ op < 26) : ∃ n : Fin 26, op = (n.val : Int) := ⟨⟨op.toNat, by omega⟩, by simp; omega⟩
theorem parts_t (op : Int) : text_Parts op = some (PS op) := by
  by_cases h : 0 ≤ op ∧ op < 26
  · obtain ⟨n, rfl⟩ := fin_of h
    have := (parts_fin n).1
    unfold PS
    cases hx : text_Parts (n.val : Int) with
    | none => rw [hx] at this; cases this
    | some x => rfl
  · unfold PS; rw [(parts_out h).1]; rfl
theorem parts_r (op : Int) : portolanref19_Parts op = some (PS op) := by
  by_cases h : 0 ≤ op ∧ op < 26
  · obtain ⟨n, rfl⟩ := fin_of h
    rw [(parts_fin n).2, parts_t]
  · unfold PS; rw [(parts_out h).1, (parts_out h).2]; rfl
theorem PS_out {op : Int} (h : ¬ (0 ≤ op ∧ op < 26)) : PS op = ({ data := #[] }, false) := by unfold PS; rw [(parts_out h).1]; rfl
def letters : List Int := [68, 65, 66, 67, 78, 77, 110, 76]
def hasS (op c : Int) : Bool := (LS op).contains c
theorem has_fin : ∀ n : Fin 26, ∀ c ∈ letters, portolanref19_has (PS (n.val : Int)).1 c = some (hasS (n.val : Int) c) ∧ (strings_IndexByte (PS (n.val : Int)).1 c).map (fun x => decide (0 ≤ x)) = some (hasS (n.val : Int) c) := by decide +kernel
theorem any_fin : ∀ n : Fin 26, text_hasAny (PS (n.val : Int)).1 ({ data := #[78, 110] } : ByteArray) = some (hasS (n.val : Int) 78 || hasS (n.val : Int) 110) ∧ text_hasAny (PS (n.val : Int)).1 ({ data := #[77] } : ByteArray) = some (hasS (n.val : Int) 77) ∧ text_hasAny (PS (n.val : Int)).1 ({ data := #[76] } : ByteArray) = some (hasS (n.val : Int) 76) := by decide +kernel

theorem within_t (a b c : Int) : text_within a b c = some (decide (b ≤ a ∧ a ≤ c)) := by
  unfold text_within; by_cases h : b ≤ a <;> simp [h]
theorem within_r (a b c : Int) : portolanref19_within a b c = some (decide (b ≤ a ∧ a ≤ c)) := by
  unfold portolanref19_within; by_cases h : b ≤ a <;> simp [h]
def inS (x : Loc) (slots : Int) : Bool := decide ((x.Kind = 1 ∧ 0 ≤ x.N ∧ x.N ≤ 31) ∨ (x.Kind = 2 ∧ 0 ≤ x.N ∧ x.N < slots))
theorem in_t {r : text_room} {x : Loc} (h1 : 1 ≤ r.slots) (h2 : r.slots ≤ 160) : text_room_in r x = some (inS x r.slots) := by
  unfold text_room_in inS
  simp only [within_t, Option.bind_some, w64_id (n := r.slots - 1) (by omega) (by omega)]
  by_cases hk : x.Kind = 1
  · simp [hk]
  · by_cases hk2 : x.Kind = 2
    · have : (x.N ≤ r.slots - 1) ↔ x.N < r.slots := by omega
      simp [hk2, this]
    · simp [hk, hk2]
theorem in_r (x : Loc) (slots : Int) : portolanref19_in x slots = some (inS x slots) := by
  unfold portolanref19_in inS
  by_cases hk : x.Kind = 1
  · by_cases h0 : 0 ≤ x.N <;> by_cases h1 : x.N ≤ 31 <;> simp [hk, h0, h1]
  · by_cases hk2 : x.Kind = 2
    · by_cases h0 : 0 ≤ x.N <;> simp [hk2, h0]
    · simp [hk, hk2]
def numS (x : Mins) (lo hi funcs : Int) : Bool :=
  if x.Op = 21 then decide (lo ≤ x.N ∧ x.N < hi)
  else if x.Op = 22 then decide ((lo ≤ x.N ∧ x.N < hi) ∧ lo ≤ x.M ∧ x.M < hi)
  else if x.Op = 19 then decide (0 ≤ x.N ∧ x.N < funcs)
  else if x.Op = 10 then decide ((0 ≤ x.N ∧ x.N ≤ 8) ∧ 0 ≤ x.M ∧ x.M ≤ 8)
  else if x.Op = 15 ∨ x.Op = 11 ∨ x.Op = 13 ∨ x.Op = 12 ∨ x.Op = 14 then decide (0 ≤ x.N ∧ x.N ≤ 7)
  else if x.Op = 16 then decide (-8 ≤ x.N ∧ x.N ≤ 8)
  else if x.Op = 1 then decide (-2147483648 ≤ x.N ∧ x.N ≤ 2147483648)
  else true
theorem num_t {r : text_room} {x : Mins} (h1 : 0 ≤ r.to_) (h2 : r.to_ ≤ 8000) (h3 : 0 ≤ r.funcs) (h4 : r.funcs ≤ 8) : text_room_numbers r x = some (numS x r.from_ r.to_ r.funcs) := by
  unfold text_room_numbers numS text_room_numbers.j1
  simp only [within_t, Option.bind_some, w64_id (n := r.to_ - 1) (by omega) (by omega), w64_id (n := r.funcs - 1) (by omega) (by omega), Int.le_sub_one_iff, beq_iff_eq, ↓reduceIte]
  repeat' split
  all_goals simp_all
  all_goals omega
theorem num_r {t : Text} {x : Mins} {lo hi : Int} (h1 : 0 ≤ hi) (h2 : hi ≤ 8000) (h4 : t.Starts.length ≤ 8) : portolanref19_numbers t x lo hi = some (numS x lo hi t.Starts.length) := by
  unfold portolanref19_numbers numS portolanref19_numbers.j1
  simp only [within_r, Option.bind_some, w64_id (n := hi - 1) (by omega) (by omega), w64_id (n := (t.Starts.length : Int) - 1) (by omega) (by omega), Int.le_sub_one_iff, beq_iff_eq, ↓reduceIte]
  repeat' split
  all_goals simp_all
  all_goals omega
end Go.Pf
end
section
/- Texts: which instruction may be, and which text is right. -/
namespace Go.Pf
open Go.Pp

theorem containsLoc {l : List Loc} {f : Loc → Option Bool} {p : Loc → Bool} (hn : l.length ≤ 4611686018427387904) (h : ∀ x ∈ l, f x = some (p x)) : slices_ContainsFunc_Loc l f = some (l.any p) := by
  have : ∃ i, slices_IndexFunc_Loc l f = some i ∧ decide (0 ≤ i) = l.any p := by
    obtain ⟨o, ho, hq⟩ := forN_rule (body := slices_IndexFunc_Loc.b1 l f) (s := ()) (n := l.length) (fun j _ => ∀ m (hm : m < l.length), m < j → p l[m] = false) (fun o => (o = .next () ∧ l.any p = false) ∨ (∃ i : Nat, o = .ret (i : Int) ∧ l.any p = true)) hn (fun _ _ h => by omega)
      (fun j s hj hI => by
        simp only [slices_IndexFunc_Loc.b1, ixL_lt hj, Option.bind_some, h _ (List.getElem_mem hj)]
        cases hp : p l[j]
        · refine ⟨_, rfl, fun m hm hmj => ?_⟩
          by_cases e : m = j
          · subst e; exact hp
          · exact hI m hm (by omega)
        · exact ⟨_, rfl, .inr ⟨j, rfl, List.any_eq_true.2 ⟨_, List.getElem_mem hj, hp⟩⟩⟩)
      (fun s hI => .inl ⟨rfl, by
        rw [← Bool.not_eq_true, List.any_eq_true]
        rintro ⟨x, hx, hp⟩
        obtain ⟨i, hi, rfl⟩ := List.mem_iff_getElem.1 hx
        rw [hI i hi hi] at hp; cases hp⟩)
    unfold slices_IndexFunc_Loc
    rcases hq with ⟨rfl, hq⟩ | ⟨i, rfl, hq⟩
    · exact ⟨-1, by rw [aft_next ho]; rfl, by rw [hq]; rfl⟩
    · exact ⟨i, by rw [aft_ret ho], by rw [hq]; simp⟩
  obtain ⟨i, h1, h2⟩ := this
  unfold slices_ContainsFunc_Loc
  rw [h1, Option.bind_some, h2]
theorem containsMins {l : List Mins} {f : Mins → Option Bool} {p : Mins → Bool} (hn : l.length ≤ 4611686018427387904) (h : ∀ x ∈ l, f x = some (p x)) : slices_ContainsFunc_Mins l f = some (l.any p) := by
  have : ∃ i, slices_IndexFunc_Mins l f = some i ∧ decide (0 ≤ i) = l.any p := by
    obtain ⟨o, ho, hq⟩ := forN_rule (body := slices_IndexFunc_Mins.b1 l f) (s := ()) (n := l.length) (fun j _ => ∀ m (hm : m < l.length), m < j → p l[m] = false) (fun o => (o = .next () ∧ l.any p = false) ∨ (∃ i : Nat, o = .ret (i : Int) ∧ l.any p = true)) hn (fun _ _ h => by omega)
      (fun j s hj hI => by
        simp only [slices_IndexFunc_Mins.b1, ixL_lt hj, Option.bind_some, h _ (List.getElem_mem hj)]
        cases hp : p l[j]
        · refine ⟨_, rfl, fun m hm hmj => ?_⟩
          by_cases e : m = j
          · subst e; exact hp
          · exact hI m hm (by omega)
        · exact ⟨_, rfl, .inr ⟨j, rfl, List.any_eq_true.2 ⟨_, List.getElem_mem hj, hp⟩⟩⟩)
      (fun s hI => .inl ⟨rfl, by
        rw [← Bool.not_eq_true, List.any_eq_true]
        rintro ⟨x, hx, hp⟩
        obtain ⟨i, hi, rfl⟩ := List.mem_iff_getElem.1 hx
        rw [hI i hi hi] at hp; cases hp⟩)
    unfold slices_IndexFunc_Mins
    rcases hq with ⟨rfl, hq⟩ | ⟨i, rfl, hq⟩
    · exact ⟨-1, by rw [aft_next ho]; rfl, by rw [hq]; rfl⟩
    · exact ⟨i, by rw [aft_ret ho], by rw [hq]; simp⟩
  obtain ⟨i, h1, h2⟩ := this
  unfold slices_ContainsFunc_Mins
  rw [h1, Option.bind_some, h2]

def fieldS (op : Int) (l : Loc) (c slots : Int) : Bool := if hasS op c then inS l slots else decide (l.Kind = 0 ∧ l.N = 0)
def mayS (x : Mins) (lo hi slots funcs : Int) : Bool :=
  (PS x.Op).2 && (fieldS x.Op x.D 68 slots && fieldS x.Op x.A 65 slots && fieldS x.Op x.B 66 slots && fieldS x.Op x.C 67 slots) &&
  (hasS x.Op 78 || hasS x.Op 110 || decide (x.N = 0)) && (hasS x.Op 77 || decide (x.M = 0)) && (hasS x.Op 76 || decide (x.Args.length = 0)) && decide (x.Args.length ≤ 4) &&
  x.Args.all (fun l => inS l slots) && numS x lo hi funcs
theorem op_of {op : Int} (h : (PS op).2 = true) : 0 ≤ op ∧ op < 26 := by
  by_cases h1 : 0 ≤ op ∧ op < 26
  · exact h1
  · rw [PS_out h1] at h; cases h
theorem has_r {op c : Int} (h : (PS op).2 = true) (hc : c ∈ letters) : portolanref19_has (PS op).1 c = some (hasS op c) := by
  obtain ⟨n, rfl⟩ := fin_of (op_of h); exact (has_fin n c hc).1
theorem has_t {op c : Int} (h : (PS op).2 = true) (hc : c ∈ letters) : ∃ i, strings_IndexByte (PS op).1 c = some i ∧ decide (0 ≤ i) = hasS op c := by
  obtain ⟨n, rfl⟩ := fin_of (op_of h)
  have := (has_fin n c hc).2
  cases hx : strings_IndexByte (PS (n.val : Int)).1 c with
  | none => rw [hx] at this; cases this
  | some i => rw [hx] at this; exact ⟨i, rfl, Option.some.inj this⟩
theorem any_t {op : Int} (h : (PS op).2 = true) : text_hasAny (PS op).1 ({ data := #[78, 110] } : ByteArray) = some (hasS op 78 || hasS op 110) ∧ text_hasAny (PS op).1 ({ data := #[77] } : ByteArray) = some (hasS op 77) ∧ text_hasAny (PS op).1 ({ data := #[76] } : ByteArray) = some (hasS op 76) := by
  obtain ⟨n, rfl⟩ := fin_of (op_of h); exact any_fin n
def locS (x : Mins) (c : Int) : Loc := if c = 68 then x.D else if c = 65 then x.A else if c = 66 then x.B else x.C
theorem loop4_r {x : Mins} {slots : Int} (h : (PS x.Op).2 = true) : forN 4 (portolanref19_ins.b1 x slots (PS x.Op)) () = some (if (fieldS x.Op x.D 68 slots && fieldS x.Op x.A 65 slots && fieldS x.Op x.B 66 slots && fieldS x.Op x.C 67 slots) then .next () else .ret false) := by
  have hb : ∀ (j : Nat) c, j < 4 → ixS ({ data := #[68, 65, 66, 67] } : ByteArray) (j : Int) = some c → c ∈ letters → portolanref19_ins.b1 x slots (PS x.Op) j () = some (if fieldS x.Op (locS x c) c slots then .next () else .ret false) := by
    intro j c hj hc hl
    simp only [portolanref19_ins.b1, hc, Option.bind_some]
    have : portolanref19_loc x c = some (locS x c) := by unfold portolanref19_loc locS; simp only [beq_iff_eq, iteS]
    simp only [this, Option.bind_some, has_r h hl, in_r]
    unfold fieldS
    cases hasS x.Op c <;> simp [iteS]
  unfold forN
  rw [if_pos (by decide), show Int.toNat 4 = 4 from rfl]
  simp only [forF, hb 0 68 (by decide) rfl (by decide), hb 1 65 (by decide) rfl (by decide), hb 2 66 (by decide) rfl (by decide), hb 3 67 (by decide) rfl (by decide), locS]
  cases h1 : fieldS x.Op x.D 68 slots <;> cases h2 : fieldS x.Op x.A 65 slots <;> cases h3 : fieldS x.Op x.B 66 slots <;> cases h4 : fieldS x.Op x.C 67 slots <;> simp_all
theorem loop4_t {x : Mins} {r : text_room} (h : (PS x.Op).2 = true) (h1 : 1 ≤ r.slots) (h2 : r.slots ≤ 160) : forN 4 (text_room_may.b1 r x (PS x.Op)) () = some (if (fieldS x.Op x.D 68 r.slots && fieldS x.Op x.A 65 r.slots && fieldS x.Op x.B 66 r.slots && fieldS x.Op x.C 67 r.slots) then .next () else .ret false) := by
  have hb : ∀ (j : Nat) c, j < 4 → ixL ([68, 65, 66, 67] : List Int) (j : Int) = some c → c ∈ letters → text_room_may.b1 r x (PS x.Op) j () = some (if fieldS x.Op (locS x c) c r.slots then .next () else .ret false) := by
    intro j c hj hc hl
    obtain ⟨i, hi, hd⟩ := has_t h hl
    simp only [text_room_may.b1, hc, Option.bind_some, hi, hd, in_t h1 h2, beq_iff_eq]
    unfold fieldS locS
    cases hasS x.Op c <;> (repeat' split) <;> simp_all
  unfold forN
  rw [if_pos (by decide), show Int.toNat 4 = 4 from rfl]
  simp only [forF, hb 0 68 (by decide) rfl (by decide), hb 1 65 (by decide) rfl (by decide), hb 2 66 (by decide) rfl (by decide), hb 3 67 (by decide) rfl (by decide), locS]
  cases h1 : fieldS x.Op x.D 68 r.slots <;> cases h2 : fieldS x.Op x.A 65 r.slots <;> cases h3 : fieldS x.Op x.B 66 r.slots <;> cases h4 : fieldS x.Op x.C 67 r.slots <;> simp_all
theorem may_r {t : Text} {x : Mins} {lo hi slots : Int} (h1 : 0 ≤ hi) (h2 : hi ≤ 8000) (h4 : t.Starts.length ≤ 8) : portolanref19_ins t x lo hi slots = some (mayS x lo hi slots t.Starts.length) := by
  unfold portolanref19_ins
  simp only [parts_r, Option.bind_some]
  cases hk : (PS x.Op).2
  · simp [mayS, hk]
  · simp only [↓reduceIte]
    rw [aft_if (loop4_r hk)]
    have hj : x.Args.length ≤ 4 → portolanref19_ins.j1 t x lo hi slots = some (x.Args.all (fun l => inS l slots) && numS x lo hi t.Starts.length) := by
      intro h
      unfold portolanref19_ins.j1
      rw [aft_if (forN_all (p := fun l => inS l slots) (r := false) (by omega) (fun i y hy => by
        simp only [portolanref19_ins.b2, ixL_of hy, Option.bind_some, in_r]; split <;> simp_all))]
      simp only [portolanref19_ins.k2, num_r h1 h2 h4, Option.bind_some]
      cases x.Args.all (fun l => inS l slots) <;> simp
    unfold portolanref19_ins.k1 mayS
    simp only [has_r hk (c := 78) (by decide), has_r hk (c := 77) (by decide), has_r hk (c := 76) (by decide), has_r hk (c := 110) (by decide), Option.bind_some]
    generalize (fieldS x.Op x.D 68 slots && fieldS x.Op x.A 65 slots && fieldS x.Op x.B 66 slots && fieldS x.Op x.C 67 slots) = F
    by_cases ha : x.Args.length ≤ 4
    · have e1 : ¬ (4 < (x.Args.length : Int)) := by omega
      simp only [hj ha, e1, decide_false, Bool.false_eq_true, ↓reduceIte]
      by_cases hz : x.Args.length = 0
      · cases F <;> cases hasS x.Op 78 <;> cases hasS x.Op 110 <;> cases hasS x.Op 77 <;> cases hasS x.Op 76 <;> by_cases hn : x.N = 0 <;> by_cases hm : x.M = 0 <;> simp [hk, hn, hm, hz, ha]
      · have e2 : (0 < (x.Args.length : Int)) := by omega
        cases F <;> cases hasS x.Op 78 <;> cases hasS x.Op 110 <;> cases hasS x.Op 77 <;> cases hasS x.Op 76 <;> by_cases hn : x.N = 0 <;> by_cases hm : x.M = 0 <;> simp [hk, hn, hm, hz, ha, e2]
    · have e1 : (4 < (x.Args.length : Int)) := by omega
      cases F <;> cases hasS x.Op 78 <;> cases hasS x.Op 110 <;> cases hasS x.Op 77 <;> cases hasS x.Op 76 <;> by_cases hn : x.N = 0 <;> by_cases hm : x.M = 0 <;> simp [hk, hn, hm, ha, e1]
theorem may_t {x : Mins} {r : text_room} (h1 : 0 ≤ r.to_) (h2 : r.to_ ≤ 8000) (h3 : 0 ≤ r.funcs) (h4 : r.funcs ≤ 8) (h5 : 1 ≤ r.slots) (h6 : r.slots ≤ 160) : text_room_may r x = some (mayS x r.from_ r.to_ r.slots r.funcs) := by
  unfold text_room_may
  simp only [parts_t, Option.bind_some]
  cases hk : (PS x.Op).2
  · simp [mayS, hk, text_room_may.j1]
  · simp only [↓reduceIte]
    by_cases ha : x.Args.length ≤ 4
    · have e1 : ¬ (4 < (x.Args.length : Int)) := by omega
      simp only [e1, decide_false, Bool.false_eq_true, ↓reduceIte]
      rw [containsLoc (p := fun y => !inS y r.slots) (by omega) (fun y _ => by simp [text_room_may_1, in_t h5 h6])]
      unfold text_room_may.j1
      rw [aft_if (loop4_t hk h5 h6)]
      unfold text_room_may.k1 text_room_may_2 mayS
      simp only [any_t hk, num_t h1 h2 h3 h4, Option.bind_some]
      generalize (fieldS x.Op x.D 68 r.slots && fieldS x.Op x.A 65 r.slots && fieldS x.Op x.B 66 r.slots && fieldS x.Op x.C 67 r.slots) = F
      rw [show (x.Args.any fun y => !inS y r.slots) = !(x.Args.all fun y => inS y r.slots) by rw [List.not_all_eq_any_not]]
      generalize (x.Args.all fun y => inS y r.slots) = G
      by_cases hz : x.Args.length = 0
      · cases F <;> cases G <;> cases hasS x.Op 78 <;> cases hasS x.Op 110 <;> cases hasS x.Op 77 <;> cases hasS x.Op 76 <;> by_cases hn : x.N = 0 <;> by_cases hm : x.M = 0 <;> simp [hk, hn, hm, hz, ha]
      · have e2 : ¬ ((x.Args.length : Int) = 0) := by omega
        cases F <;> cases G <;> cases hasS x.Op 78 <;> cases hasS x.Op 110 <;> cases hasS x.Op 77 <;> cases hasS x.Op 76 <;> by_cases hn : x.N = 0 <;> by_cases hm : x.M = 0 <;> simp [hk, hn, hm, hz, ha, e2]
    · have e1 : (4 < (x.Args.length : Int)) := by omega
      simp [e1, text_room_may.j1, mayS, ha]
end Go.Pf
end
section
/- Texts: which text is right. -/
namespace Go.Pf
open Go.Pp

def stS (t : Text) (i : Nat) : Int := t.Starts.getD i 0
def slS (t : Text) (i : Nat) : Int := t.Slots.getD i 0
def endS (t : Text) (i : Nat) : Int := if i + 1 < t.Starts.length then stS t (i+1) else t.Code.length
def cutS' (t : Text) (i : Nat) : List Mins := (t.Code.drop (stS t i).toNat).take ((endS t i).toNat - (stS t i).toNat)
def fnS (t : Text) (i : Nat) : Bool :=
  decide (stS t i < endS t i) && decide (endS t i ≤ t.Code.length) && decide (1 ≤ slS t i ∧ slS t i ≤ 160) &&
  ((cutS' t i).all (fun x => mayS x (stS t i) (endS t i) (slS t i) t.Starts.length) &&
  decide (21 ≤ (t.Code.getD (endS t i - 1).toNat default).Op ∧ (t.Code.getD (endS t i - 1).toNat default).Op ≤ 23))
def headS (t : Text) : Bool := decide (1 ≤ t.Starts.length ∧ t.Starts.length ≤ 8 ∧ t.Slots.length = t.Starts.length ∧ t.Code.length ≤ 8000 ∧ stS t 0 = 0)
def RightS (t : Text) : Bool := headS t && (List.range t.Starts.length).all (fnS t)

theorem stS_ix {t : Text} {i : Nat} (h : i < t.Starts.length) : ixL t.Starts (i : Int) = some (stS t i) := by
  rw [ixL_lt h]; simp [stS, h]
theorem slS_ix {t : Text} {i : Nat} (h : i < t.Slots.length) : ixL t.Slots (i : Int) = some (slS t i) := by
  rw [ixL_lt h]; simp [slS, h]
theorem code_ix {t : Text} {i : Int} (h0 : 0 ≤ i) (h : i < t.Code.length) : ixL t.Code i = some (t.Code.getD i.toNat default) := by
  rw [ixL_int h0 h]; simp [show i.toNat < t.Code.length by omega]
theorem ends_t {t : Text} (h : headS t = true) : text_ends t = some (t.Starts.drop 1 ++ [(t.Code.length : Int)]) := by
  simp only [headS, decide_eq_true_eq] at h
  unfold text_ends slices_Clone_int
  rw [tailL_ok (by omega) (by omega), Option.bind_some, appL_ok (by simp; omega), Option.bind_some, appL_ok (by simp; omega)]
  rfl
theorem ends_ix {t : Text} {i : Nat} (h : headS t = true) (hi : i < t.Starts.length) : ixL (t.Starts.drop 1 ++ [(t.Code.length : Int)]) (i : Int) = some (endS t i) := by
  simp only [headS, decide_eq_true_eq] at h
  unfold endS stS
  refine ixL_of ?_
  by_cases h1 : i + 1 < t.Starts.length
  · rw [List.getElem?_append_left (by simp; omega), List.getElem?_drop, Nat.add_comm, if_pos h1]
    simp [h1]
  · rw [List.getElem?_append_right (by simp; omega), if_neg h1]
    simp [show i - (t.Starts.length - 1) = 0 by omega]
theorem start_nonneg {t : Text} (h : headS t = true) : ∀ {i : Nat}, (∀ m, m < i → fnS t m = true) → i < t.Starts.length → 0 ≤ stS t i
  | 0, _, _ => by simp only [headS, decide_eq_true_eq] at h; omega
  | i+1, hp, hi => by
    have h0 := start_nonneg h (i := i) (fun m hm => hp m (by omega)) (by omega)
    have h1 := hp i (by omega)
    simp only [fnS, Bool.and_eq_true, decide_eq_true_eq] at h1
    have h2 : endS t i = stS t (i+1) := by unfold endS; rw [if_pos hi]
    omega
theorem right_t (t : Text) (hl : t.Code.length ≤ 281474976710656) : text_Right t = some (RightS t) := by
  unfold text_Right RightS
  simp only [within_t, Option.bind_some]
  cases hh : headS t
  · simp only [Bool.false_and]
    have hh' := hh
    simp only [headS, decide_eq_false_iff_not] at hh
    by_cases h1 : 1 ≤ t.Starts.length ∧ t.Starts.length ≤ 8
    · have e1 : decide ((1 : Int) ≤ t.Starts.length ∧ (t.Starts.length : Int) ≤ 8) = true := by simp; omega
      simp only [e1, ↓reduceIte, text_Right.j1]
      by_cases h2 : t.Slots.length = t.Starts.length
      · by_cases h3 : t.Code.length ≤ 8000
        · have h4 : ¬ stS t 0 = 0 := fun h4 => hh ⟨h1.1, h1.2, h2, h3, h4⟩
          have := stS_ix (t := t) (i := 0) (by omega)
          simp only [Int.ofNat_zero, Int.natCast_zero] at this
          simp [h2, this, h4]
        · simp [h2, show (8000 : Int) < t.Code.length by omega]
      · have : ¬ ((t.Slots.length : Int) = t.Starts.length) := by omega
        simp [this]
    · have e1 : decide ((1 : Int) ≤ t.Starts.length ∧ (t.Starts.length : Int) ≤ 8) = false := by simp; omega
      simp [e1, text_Right.j1]
  · have hh' := hh
    simp only [headS, decide_eq_true_eq] at hh
    obtain ⟨g1, g2, g3, g4, g5⟩ := hh
    have e1 : decide ((1 : Int) ≤ t.Starts.length ∧ (t.Starts.length : Int) ≤ 8) = true := by simp; omega
    have := stS_ix (t := t) (i := 0) (by omega)
    simp only [Int.ofNat_zero, Int.natCast_zero] at this
    have e2 : ((t.Slots.length : Int) != t.Starts.length) = false := by simp [g3]
    have e3 : ¬ (8000 : Int) < t.Code.length := by omega
    simp only [e1, e2, e3, decide_false, Bool.false_eq_true, ↓reduceIte, this, Option.bind_some, g5, bne_self_eq_false, text_Right.j1, ends_t hh']
    have el : (t.Starts.drop 1 ++ [(t.Code.length : Int)]).length = t.Starts.length := by simp; omega
    rw [el, aft_if (forN_allI (p := fnS t) (r := false) (by omega) fun j hj hp => ?_)]
    · simp only [text_Right.k1]
      cases (List.range t.Starts.length).all (fnS t) <;> simp
    · have h0 := start_nonneg hh' hp hj
      simp only [text_Right.b1, ends_ix hh' hj, stS_ix hj, Option.bind_some, text_Right.j2]
      unfold fnS
      by_cases c1 : endS t j ≤ stS t j
      · have : ¬ stS t j < endS t j := by omega
        simp [c1, this]
      · by_cases c2 : (t.Code.length : Int) < endS t j
        · have : ¬ endS t j ≤ t.Code.length := by omega
          simp [c1, c2, this]
        · have i1 : stS t j < endS t j := by omega
          have i2 : endS t j ≤ t.Code.length := by omega
          simp only [c1, c2, decide_false, Bool.false_eq_true, ↓reduceIte, slS_ix (t := t) (i := j) (by omega), Option.bind_some, within_t, i1, i2, decide_true, Bool.true_and]
          by_cases c3 : 1 ≤ slS t j ∧ slS t j ≤ 160
          · simp only [c3, decide_true, and_self, Bool.not_true, Bool.false_eq_true, ↓reduceIte, Bool.true_and]
            rw [cutL_ok h0 (by omega) i2, Option.bind_some]
            rw [containsMins (p := fun x => !mayS x (stS t j) (endS t j) (slS t j) t.Starts.length) (by simp; omega) (fun x _ => by
              simp only [text_Right_1]
              rw [may_t (by simp; omega) (by simp; omega) (by simp) (by simp; omega) (by simp; omega) (by simp; omega)]; rfl)]
            rw [show ((t.Code.drop (stS t j).toNat).take ((endS t j).toNat - (stS t j).toNat)).any (fun x => !mayS x (stS t j) (endS t j) (slS t j) t.Starts.length) = !((cutS' t j).all (fun x => mayS x (stS t j) (endS t j) (slS t j) t.Starts.length)) by rw [List.not_all_eq_any_not]; rfl]
            rw [Option.bind_some, w64_id (by omega) (by omega), code_ix (by omega) (by omega), Option.bind_some]
            generalize (cutS' t j).all (fun x => mayS x (stS t j) (endS t j) (slS t j) t.Starts.length) = A
            cases A <;> simp [iteS]
          · simp [c3]
theorem right_r (t : Text) (hl : t.Code.length ≤ 281474976710656) : portolanref19_Right t = some (RightS t) := by
  unfold portolanref19_Right RightS
  cases hh : headS t
  · simp only [Bool.false_and]
    simp only [headS, decide_eq_false_iff_not] at hh
    by_cases h1 : 1 ≤ t.Starts.length
    · by_cases h1' : t.Starts.length ≤ 8
      · have e1 : ¬ (t.Starts.length : Int) < 1 := by omega
        have e2 : ¬ 8 < (t.Starts.length : Int) := by omega
        simp only [e1, e2, decide_false, Bool.false_eq_true, ↓reduceIte, portolanref19_Right.j1]
        by_cases h2 : t.Slots.length = t.Starts.length
        · by_cases h3 : t.Code.length ≤ 8000
          · have h4 : ¬ stS t 0 = 0 := fun h4 => hh ⟨h1, h1', h2, h3, h4⟩
            have := stS_ix (t := t) (i := 0) (by omega)
            simp only [Int.ofNat_zero, Int.natCast_zero] at this
            simp [h2, this, h4]
          · simp [h2, show (8000 : Int) < t.Code.length by omega]
        · have : ¬ ((t.Slots.length : Int) = t.Starts.length) := by omega
          simp [this]
      · have e2 : 8 < (t.Starts.length : Int) := by omega
        simp [e2, portolanref19_Right.j1]
    · have e1 : (t.Starts.length : Int) < 1 := by omega
      simp [e1, portolanref19_Right.j1]
  · have hh' := hh
    simp only [headS, decide_eq_true_eq] at hh
    obtain ⟨g1, g2, g3, g4, g5⟩ := hh
    have := stS_ix (t := t) (i := 0) (by omega)
    simp only [Int.ofNat_zero, Int.natCast_zero] at this
    have e0 : ¬ (t.Starts.length : Int) < 1 := by omega
    have e1 : ¬ 8 < (t.Starts.length : Int) := by omega
    have e2 : ((t.Slots.length : Int) != t.Starts.length) = false := by simp [g3]
    have e3 : ¬ (8000 : Int) < t.Code.length := by omega
    simp only [e0, e1, e2, e3, decide_false, Bool.false_eq_true, ↓reduceIte, this, Option.bind_some, g5, bne_self_eq_false, portolanref19_Right.j1]
    rw [aft_if (forN_allI (p := fnS t) (r := false) (by omega) fun j hj hp => ?_)]
    · simp only [portolanref19_Right.k1]
      cases (List.range t.Starts.length).all (fnS t) <;> simp
    · have h0 := start_nonneg hh' hp hj
      have hb : portolanref19_Right.b1 t j () = portolanref19_Right.j2 t (endS t j) j := by
        unfold portolanref19_Right.b1 endS
        simp only [w64_id (n := (j : Int) + 1) (by omega) (by omega)]
        by_cases hj1 : j + 1 < t.Starts.length
        · have : ((j : Int) + 1 < t.Starts.length) := by omega
          have h2 := stS_ix hj1
          simp only [Int.natCast_add, Int.natCast_one] at h2
          simp [this, hj1, h2]
        · have : ¬ ((j : Int) + 1 < t.Starts.length) := by omega
          simp [this, hj1]
      rw [hb]
      unfold portolanref19_Right.j2
      simp only [stS_ix hj, Option.bind_some]
      unfold portolanref19_Right.j3 fnS
      by_cases c2 : (t.Code.length : Int) < endS t j
      · have : ¬ endS t j ≤ t.Code.length := by omega
        simp [c2, this]
      by_cases c1 : endS t j ≤ stS t j
      · have : ¬ stS t j < endS t j := by omega
        simp [c1, c2, this]
      have i1 : stS t j < endS t j := by omega
      have i2 : endS t j ≤ t.Code.length := by omega
      simp only [c1, c2, decide_false, Bool.false_eq_true, ↓reduceIte, slS_ix (t := t) (i := j) (by omega), Option.bind_some, i1, i2, decide_true, Bool.true_and]
      by_cases c3 : slS t j < 1
      · have : ¬ (1 ≤ slS t j ∧ slS t j ≤ 160) := by omega
        simp [c3, this]
      by_cases c4 : 160 < slS t j
      · have : ¬ (1 ≤ slS t j ∧ slS t j ≤ 160) := by omega
        simp [c3, c4, this]
      have i3 : 1 ≤ slS t j ∧ slS t j ≤ 160 := by omega
      simp only [c3, c4, i3, decide_false, decide_true, and_self, Bool.false_eq_true, ↓reduceIte, Bool.true_and]
      let P := fun x => mayS x (stS t j) (endS t j) (slS t j) t.Starts.length
      obtain ⟨o, ho, hq⟩ := whileF_rule (body := portolanref19_Right.b2 t (endS t j) (stS t j) j) (fun k => stS t j ≤ k ∧ k ≤ endS t j ∧ ∀ (m : Nat) (hm : m < t.Code.length), stS t j ≤ m → m < k → P t.Code[m] = true)
        (fun k => (endS t j - k).toNat) (fun o => (∃ s, o = .brk s ∧ (cutS' t j).all P = true) ∨ (o = .ret false ∧ (cutS' t j).all P = false))
        (fun k hk => by
          obtain ⟨k1, k2, k3⟩ := hk
          simp only [portolanref19_Right.b2]
          by_cases hk : k < endS t j
          · rw [ixL_int (by omega) (by omega), slS_ix (by omega)]
            simp only [hk, decide_true, ↓reduceIte, Option.bind_some]
            rw [may_r (by omega) (by omega) (by omega), Option.bind_some]
            cases hm : mayS t.Code[k.toNat] (stS t j) (endS t j) (slS t j) t.Starts.length
            · refine ⟨_, rfl, .inr ⟨rfl, ?_⟩⟩
              rw [← Bool.not_eq_true, List.all_eq_true]
              intro H
              have := H t.Code[k.toNat] (by
                rw [cutS', List.mem_iff_getElem]
                refine ⟨k.toNat - (stS t j).toNat, by simp; omega, ?_⟩
                simp [show (stS t j).toNat + (k.toNat - (stS t j).toNat) = k.toNat by omega])
              simp only [P, hm] at this; cases this
            · refine ⟨_, rfl, ?_⟩
              simp only []
              rw [w64_id (by omega) (by omega)]
              refine ⟨⟨by omega, by omega, fun m hm1 hm2 hm3 => ?_⟩, by omega⟩
              by_cases e : m = k.toNat
              · subst e; exact hm
              · exact k3 m hm1 hm2 (by omega)
          · refine ⟨.brk k, by simp only [hk, decide_false, Bool.false_eq_true, ↓reduceIte], ?_⟩
            refine .inl ⟨_, rfl, ?_⟩
            rw [List.all_eq_true]
            intro x hx
            rw [cutS', List.mem_iff_getElem] at hx
            obtain ⟨i, hi, rfl⟩ := hx
            simp only [List.length_take, List.length_drop] at hi
            simp only [List.getElem_take, List.getElem_drop]
            exact k3 _ (by omega) (by omega) (by omega)) 18446744073709551616 (stS t j) ⟨by omega, by omega, fun m _ h1 h2 => by omega⟩ (by omega)
      rcases hq with ⟨s, rfl, hq⟩ | ⟨rfl, hq⟩
      · rw [aft_brk ho]
        simp only [P] at hq
        simp only [portolanref19_Right.k2, w64_id (n := endS t j - 1) (by omega) (by omega), code_ix (t := t) (i := endS t j - 1) (by omega) (by omega), Option.bind_some, hq, Bool.true_and]
        generalize (t.Code.getD (endS t j - 1).toNat default).Op = z
        by_cases z1 : z = 21
        · simp [z1]
        by_cases z2 : z = 22
        · simp [z2]
        by_cases z3 : z = 23
        · simp [z3]
        have : ¬ (21 ≤ z ∧ z ≤ 23) := by omega
        simp [z1, z2, z3, this]
      · rw [aft_ret ho]
        simp only [P] at hq
        simp [hq]
end Go.Pf
end
section
/- Numbers in few bytes: what both texts compute. -/
namespace Go.Pf
open Go.Pp

/-- a number's bytes -/
def digS (n : Nat) : List Int := if n < 128 then [(n : Int)] else ((n % 128 + 128 : Nat) : Int) :: digS (n / 128)
termination_by n
decreasing_by omega
theorem digS_small {n : Nat} (h : n < 128) : digS n = [(n : Int)] := by rw [digS, if_pos h]
theorem digS_big {n : Nat} (h : ¬ n < 128) : digS n = ((n % 128 + 128 : Nat) : Int) :: digS (n / 128) := by rw [digS, if_neg h]
theorem digS_len : ∀ (k n : Nat), n < 128 ^ (k+1) → (digS n).length ≤ k + 1
  | 0, n, h => by rw [digS_small (by simpa using h)]; simp
  | k+1, n, h => by
    by_cases hn : n < 128
    · rw [digS_small hn]; simp
    · rw [digS_big hn, List.length_cons]
      have := digS_len k (n / 128) (by rw [Nat.pow_succ] at h; omega)
      omega
theorem digS_pos (n : Nat) : 1 ≤ (digS n).length := by rw [digS]; split <;> simp
theorem digS_len10 {n : Nat} (h : n < 18446744073709551616) : (digS n).length ≤ 10 := digS_len 9 n (Nat.lt_of_lt_of_le h (by decide))
theorem digS_byte : ∀ (n : Nat), ∀ x ∈ digS n, 0 ≤ x ∧ x ≤ 255 := by
  intro n
  induction n using Nat.strongRecOn with
  | _ n ih =>
    intro x hx
    by_cases hn : n < 128
    · rw [digS_small hn] at hx; simp at hx; omega
    · rw [digS_big hn] at hx
      rcases List.mem_cons.1 hx with rfl | h
      · omega
      · exact ih (n / 128) (by omega) x h
theorem or8 : ∀ a : Fin 256, u8 (orW 8 (u8 (a.val : Int)) 128) = ((a.val % 128 + 128 : Nat) : Int) := by decide +kernel
theorem or8_128 (x : Nat) : u8 (orW 8 (u8 (x : Int)) 128) = ((x % 128 + 128 : Nat) : Int) := by
  have h : u8 (x : Int) = ((x % 256 : Nat) : Int) := by unfold u8; omega
  have := or8 ⟨x % 256, by omega⟩
  simp only [] at this
  rw [show u8 ((x % 256 : Nat) : Int) = ((x % 256 : Nat) : Int) by unfold u8; omega] at this
  rw [h, this]
  omega
theorem shr7 (x : Nat) : shrE (x : Int) 7 64 = ((x / 128 : Nat) : Int) := by
  unfold shrE
  rw [show (2 : Int) ^ min (Int.toNat 7) 64 = 128 from rfl, Int.fdiv_eq_ediv_of_nonneg _ (by omega)]
  omega
theorem put_t {l : List Int} {n : Nat} (hl : l.length ≤ 100000000000000) (hn : n < 18446744073709551616) : varint_put l (n : Int) = some (l ++ digS n) := by
  have hd := digS_len10 hn
  unfold varint_put slices_Clip_byte
  rw [Option.bind_some]
  obtain ⟨o, ho, hq⟩ := whileF_rule (body := varint_put.b1) (fun s => ∃ m : Nat, s.2 = (m : Int) ∧ s.1 ++ digS m = l ++ digS n) (fun s => s.2.toNat)
    (fun o => ∃ x : List Int, ∃ m : Nat, o = .brk (x, (m : Int)) ∧ m < 128 ∧ x ++ digS m = l ++ digS n)
    (fun s hs => by
      obtain ⟨x, _⟩ := s
      obtain ⟨m, hm1, hm2⟩ := hs
      simp only [] at hm1
      subst hm1
      simp only [varint_put.b1]
      have hlen := congrArg List.length hm2
      simp only [List.length_append] at hlen
      have h1 := digS_pos m
      by_cases h : m < 128
      · have : ¬ (128 : Int) ≤ m := by omega
        rw [if_neg (by simpa using this)]
        exact ⟨.brk (x, (m : Int)), rfl, x, m, rfl, h, hm2⟩
      · rw [if_pos (by simp; omega), appL_ok (by simp only [List.length_singleton]; omega), Option.bind_some]
        refine ⟨_, rfl, ⟨m / 128, shr7 m, ?_⟩, ?_⟩
        · rw [or8_128, ← hm2, digS_big h]; simp
        · simp only [shr7]; omega) 18446744073709551616 (l, (n : Int)) ⟨n, rfl, rfl⟩ (by simpa using hn)
  obtain ⟨x, m, rfl, hm, hx⟩ := hq
  rw [aft_brk ho]
  simp only [varint_put.k1]
  have hlen := congrArg List.length hx
  simp only [List.length_append] at hlen
  have h1 := digS_pos m
  rw [appL_ok (by simp only [List.length_singleton]; omega), Option.bind_some, ← hx, digS_small hm, u8_id (by omega) (by omega)]
theorem digits_r {n : Nat} (hn : n < 18446744073709551616) : portolanref01_digits (n : Int) = some (digS n) := by
  have hd := digS_len10 hn
  unfold portolanref01_digits
  obtain ⟨o, ho, hq⟩ := whileF_rule (body := portolanref01_digits.b1) (fun s => ∃ m : Nat, s.2 = (m : Int) ∧ m ≤ n ∧ s.1 ++ digS m = digS n) (fun s => s.2.toNat)
    (fun o => ∃ x : List Int, ∃ m : Nat, o = .brk (x, (m : Int)) ∧ m < 128 ∧ x ++ digS m = digS n)
    (fun s hs => by
      obtain ⟨x, _⟩ := s
      obtain ⟨m, hm1, hmn, hm2⟩ := hs
      simp only [] at hm1
      subst hm1
      simp only [portolanref01_digits.b1]
      have hlen := congrArg List.length hm2
      simp only [List.length_append] at hlen
      have h1 := digS_pos m
      by_cases h : m < 128
      · have : ¬ (128 : Int) ≤ m := by omega
        rw [if_neg (by simpa using this)]
        exact ⟨.brk (x, (m : Int)), rfl, x, m, rfl, h, hm2⟩
      · have ed : Int.tdiv (m : Int) 128 = ((m / 128 : Nat) : Int) := by rw [Int.tdiv_eq_ediv_of_nonneg (by omega)]; omega
        have em : Int.tmod (m : Int) 128 = ((m % 128 : Nat) : Int) := by rw [Int.tmod_eq_emod_of_nonneg (by omega)]; omega
        rw [if_pos (by simp; omega), appL_ok (by simp only [List.length_singleton]; omega), Option.bind_some]
        refine ⟨_, rfl, ⟨m / 128, ?_, by omega, ?_⟩, ?_⟩
        · simp only [ed]; exact u64_id (by omega) (by omega)
        · rw [em, ← hm2, digS_big h, u8_id (n := ((m % 128 : Nat) : Int)) (by omega) (by omega), u8_id (by omega) (by omega)]; simp
        · simp only [ed]; rw [u64_id (by omega) (by omega)]; omega) 18446744073709551616 ([], (n : Int)) ⟨n, rfl, Nat.le_refl _, rfl⟩ (by simpa using hn)
  obtain ⟨x, m, rfl, hm, hx⟩ := hq
  rw [aft_brk ho]
  simp only [portolanref01_digits.k1]
  have hlen := congrArg List.length hx
  simp only [List.length_append] at hlen
  have h1 := digS_pos m
  rw [appL_ok (by simp only [List.length_singleton]; omega), Option.bind_some, ← hx, digS_small hm, u8_id (by omega) (by omega)]
/-- a number's bytes; of one below 0, none -/
def putS (n : Int) : List Int := if n < 0 then [] else digS n.toNat
def okI (n : Int) : Prop := -9223372036854775808 ≤ n ∧ n ≤ 9223372036854775807
theorem putS_len {n : Int} (h : okI n) : (putS n).length ≤ 10 := by
  unfold putS okI at *; split
  · simp
  · exact digS_len10 (by omega)
theorem Put_t {l : List Int} {n : Int} (hl : l.length ≤ 100000000000000) (hn : okI n) : varint_Put l n = some (l ++ putS n) := by
  unfold okI at hn
  unfold varint_Put putS slices_Clone_byte
  by_cases h : n < 0
  · simp only [h, decide_true, ↓reduceIte]
    rw [appL_ok (by simp; omega)]; simp
  · simp only [h, decide_false, Bool.false_eq_true, ↓reduceIte]
    obtain ⟨m, rfl⟩ : ∃ m : Nat, n = (m : Int) := ⟨n.toNat, by omega⟩
    rw [u64_id (by omega) (by omega), put_t hl (by omega)]
    simp
theorem Put_r {l : List Int} {n : Int} (hl : l.length ≤ 100000000000000) (hn : okI n) : portolanref01_Put l n = some (l ++ putS n) := by
  unfold okI at hn
  unfold portolanref01_Put putS
  rw [appL_ok (by simp; omega), Option.bind_some, List.nil_append]
  by_cases h : n < 0
  · simp [h]
  · simp only [h, decide_false, Bool.false_eq_true, ↓reduceIte]
    obtain ⟨m, rfl⟩ : ∃ m : Nat, n = (m : Int) := ⟨n.toNat, by omega⟩
    rw [u64_id (by omega) (by omega), digits_r (by omega), Option.bind_some, appL_ok (by have := digS_len10 (n := m) (by omega); omega)]
    simp
theorem List_t {l : List Int} (hl : l.length ≤ 1000000) (hn : ∀ n ∈ l, okI n) : varint_List l = some (l.flatMap putS) := by
  unfold varint_List
  have := forN_app (l := l) (body := varint_List.b1 l) (g := putS) (s := []) 10 100000000000000 (by omega) (by simp; omega) (fun x hx => putS_len (hn x hx))
    (fun i x s hx hs => by simp only [varint_List.b1, ixL_of hx, Option.bind_some]; rw [Put_t (by omega) (hn x (List.mem_of_getElem? hx)), Option.bind_some])
  rw [aft_next this.1]; simp [varint_List.k1]
theorem List_r {l : List Int} (hl : l.length ≤ 1000000) (hn : ∀ n ∈ l, okI n) : portolanref01_List l = some (l.flatMap putS) := by
  unfold portolanref01_List
  have := forN_app (l := l) (body := portolanref01_List.b1 l) (g := putS) (s := []) 10 100000000000000 (by omega) (by simp; omega) (fun x hx => putS_len (hn x hx))
    (fun i x s hx hs => by simp only [portolanref01_List.b1, ixL_of hx, Option.bind_some]; rw [Put_r (by omega) (hn x (List.mem_of_getElem? hx)), Option.bind_some])
  rw [aft_next this.1]; simp [portolanref01_List.k1]
/-- a signed number as one without a sign -/
def turnS (n : Int) : Nat := if n < 0 then (-(n+1)).toNat * 2 + 1 else n.toNat * 2
theorem turnS_lt {n : Int} (h : okI n) : turnS n < 18446744073709551616 := by unfold turnS okI at *; split <;> omega
theorem turned_r {n : Int} (h : okI n) : portolanref01_turned n = some (turnS n : Int) := by
  unfold portolanref01_turned turnS okI at *
  by_cases hn : n < 0
  · simp only [hn, decide_true, ↓reduceIte]
    rw [w64_id (n := n + 1) (by omega) (by omega), w64_id (by omega) (by omega), u64_id (n := 0 - (n+1)) (by omega) (by omega), u64_id (n := (0 - (n+1)) * 2) (by omega) (by omega), u64_id (by omega) (by omega)]
    congr 1; omega
  · simp only [hn, decide_false, Bool.false_eq_true, ↓reduceIte]
    rw [u64_id (n := n) (by omega) (by omega), u64_id (by omega) (by omega)]
    congr 1; omega
theorem xor_ones {a : Nat} (h : a < 2 ^ 64) : (a ^^^ (2 ^ 64 - 1)) = 2 ^ 64 - 1 - a := by
  refine Nat.eq_of_testBit_eq fun i => ?_
  rw [Nat.testBit_xor, Nat.testBit_two_pow_sub_one]
  rw [show 2 ^ 64 - 1 - a = 2 ^ 64 - (a + 1) by omega, Nat.testBit_two_pow_sub_succ h]
  by_cases hi : i < 64
  · simp [hi]
  · simp only [hi, decide_false, Bool.bne_false, Bool.false_and]
    exact Nat.testBit_lt_two_pow (Nat.lt_of_lt_of_le h (Nat.pow_le_pow_right (by omega) (by omega)))
theorem xorW_nat {a b : Nat} (ha : a < 18446744073709551616) (hb : b < 18446744073709551616) : xorW 64 (a : Int) (b : Int) = ((a ^^^ b : Nat) : Int) := by
  unfold xorW
  rw [BitVec.toNat_xor, BitVec.toNat_ofInt, BitVec.toNat_ofInt]
  congr 2 <;> omega
theorem turned_t {n : Int} (h : okI n) : u64 (xorW 64 (u64 (shlE (u64 n) 1 64)) (u64 (shrE n 63 64))) = (turnS n : Int) := by
  unfold okI at h
  have e1 : shlE (u64 n) 1 64 = u64 n * 2 := by unfold shlE; rfl
  have e2 : shrE n 63 64 = if n < 0 then -1 else 0 := by
    unfold shrE
    rw [show (2 : Int) ^ min (Int.toNat 63) 64 = 9223372036854775808 from rfl, Int.fdiv_eq_ediv_of_nonneg _ (by omega)]
    split <;> omega
  rw [e1, e2]
  by_cases hn : n < 0
  · have h1 : u64 (u64 n * 2) = ((18446744073709551615 - (turnS n) : Nat) : Int) := by unfold u64 turnS; rw [if_pos hn]; omega
    have h2 : u64 (if n < 0 then (-1) else 0) = ((18446744073709551615 : Nat) : Int) := by rw [if_pos hn]; rfl
    have h3 := turnS_lt (n := n) h
    rw [h1, h2, xorW_nat (by omega) (by omega)]
    have := xor_ones (a := 18446744073709551615 - turnS n) (by omega)
    simp only [Nat.reducePow, Nat.add_one_sub_one, Nat.reduceSub] at this
    rw [this]
    unfold u64; omega
  · have h1 : u64 (u64 n * 2) = ((turnS n : Nat) : Int) := by unfold u64 turnS; rw [if_neg hn]; omega
    have h2 : u64 (if n < 0 then (-1) else 0) = ((0 : Nat) : Int) := by rw [if_neg hn]; rfl
    have h3 := turnS_lt (n := n) h
    rw [h1, h2, xorW_nat (by omega) (by omega), Nat.xor_zero]
    exact u64_id (by omega) (by omega)
def sgnS (n : Int) : List Int := digS (turnS n)
theorem sgnS_len {n : Int} (h : okI n) : (sgnS n).length ≤ 10 := digS_len10 (turnS_lt h)
theorem PutSigned_t {l : List Int} {n : Int} (hl : l.length ≤ 100000000000000) (hn : okI n) : varint_PutSigned l n = some (l ++ sgnS n) := by
  unfold varint_PutSigned
  rw [turned_t hn, put_t hl (turnS_lt hn)]; rfl
theorem PutSigned_r {l : List Int} {n : Int} (hl : l.length ≤ 100000000000000) (hn : okI n) : portolanref01_PutSigned l n = some (l ++ sgnS n) := by
  unfold portolanref01_PutSigned
  rw [appL_ok (by simp; omega), Option.bind_some, turned_r hn, Option.bind_some, digits_r (turnS_lt hn), Option.bind_some, appL_ok (by have := digS_len10 (turnS_lt hn); simp; omega)]
  rfl
theorem Same01 {a b : List Int} (h : a.length ≤ 4611686018427387904) : portolanref01_Same a b = some (decide (a = b)) := by
  unfold portolanref01_Same
  by_cases hl : a.length = b.length
  · have : ((a.length : Int) != b.length) = false := by simp [hl]
    simp only [this, Bool.false_eq_true, ↓reduceIte]
    rw [aft_if (forN_same (m := b) (r := false) h hl (fun i x y hx hy => by simp only [portolanref01_Same.b1, ixL_of hx, ixL_of hy, Option.bind_some]; by_cases e : x = y <;> simp [e]))]
    simp only [portolanref01_Same.k1, iteS]
    by_cases e : a = b <;> simp [e]
  · have : ((a.length : Int) != b.length) = true := by simp; omega
    simp only [this, ↓reduceIte]
    rw [decide_eq_false]; rintro rfl; exact hl rfl
theorem Ints01 {a b : List Int} (h : a.length ≤ 4611686018427387904) : portolanref01_Ints a b = some (decide (a = b)) := by
  unfold portolanref01_Ints
  by_cases hl : a.length = b.length
  · have : ((a.length : Int) != b.length) = false := by simp [hl]
    simp only [this, Bool.false_eq_true, ↓reduceIte]
    rw [aft_if (forN_same (m := b) (r := false) h hl (fun i x y hx hy => by simp only [portolanref01_Ints.b1, ixL_of hx, ixL_of hy, Option.bind_some]; by_cases e : x = y <;> simp [e]))]
    simp only [portolanref01_Ints.k1, iteS]
    by_cases e : a = b <;> simp [e]
  · have : ((a.length : Int) != b.length) = true := by simp; omega
    simp only [this, ↓reduceIte]
    rw [decide_eq_false]; rintro rfl; exact hl rfl
end Go.Pf
end
section
/- Numbers out of bytes: what both texts compute, and back. -/
namespace Go.Pf
open Go.Pp

/-- a number that bytes begin with: of cap bytes at most, from byte i on, u so far -/
def rdS (cap : Nat) : Nat → Int → List Int → Int × Int × Int
  | i, _, [] => if cap ≤ i then (0, 0, 3) else (0, 0, 2)
  | i, u, x :: r =>
    if cap ≤ i then (0, 0, 3)
    else if i = 9 ∧ 1 < x % 128 then (0, 0, 3)
    else if x < 128 then (if x = 0 ∧ 0 < i then (0, 0, 4) else (u + x % 128 * 128 ^ i, (i : Int) + 1, 0))
    else rdS cap (i+1) (u + x % 128 * 128 ^ i) r
def okB (l : List Int) : Prop := ∀ a ∈ l, 0 ≤ a ∧ a ≤ 255
theorem bytes8 : ∀ a : Fin 256, u8 (clrW 8 (a.val : Int) 128) = (a.val : Int) % 128 ∧ (u8 (andW 8 (a.val : Int) 128) != 0) = decide (¬ (a.val : Int) < 128) := by decide +kernel
theorem clr8 {x : Int} (h : 0 ≤ x ∧ x ≤ 255) : u8 (clrW 8 x 128) = x % 128 ∧ (u8 (andW 8 x 128) != 0) = decide (¬ x < 128) := by
  have := bytes8 ⟨x.toNat, by omega⟩
  simpa [show ((x.toNat : Nat) : Int) = x by omega] using this
theorem pow128_nat (i : Nat) : ((128 : Int) ^ i) = ((2 ^ (7 * i) : Nat) : Int) := by
  rw [Nat.pow_mul]; simp
theorem pow_le9 : ∀ i : Fin 10, (2 ^ (7 * i.val) : Nat) ≤ 9223372036854775808 := by decide +kernel
theorem shl7 {x : Int} {i : Nat} (hi : i ≤ 9) : shlE x (w64 (7 * (i : Int))) 64 = x * 128 ^ i := by
  unfold shlE
  rw [w64_id (by omega) (by omega), show (7 * (i : Int)).toNat = 7 * i by omega, show min (7 * i) 64 = 7 * i by omega, pow128_nat]
  simp
theorem step_lt {x u : Int} {i : Nat} (hu : 0 ≤ u ∧ u < 128 ^ i) (hx : 0 ≤ x ∧ x < 128) : 0 ≤ u + x * 128 ^ i ∧ u + x * 128 ^ i < 128 ^ (i+1) := by
  have hp : (0 : Int) < 128 ^ i := Int.pow_pos (by omega)
  have h1 : 0 ≤ x * 128 ^ i := Int.mul_nonneg hx.1 (Int.le_of_lt hp)
  have h2 : x * 128 ^ i ≤ 127 * 128 ^ i := Int.mul_le_mul_of_nonneg_right (by omega) (Int.le_of_lt hp)
  rw [Int.pow_succ]
  omega
theorem fit64 {x u : Int} {i : Nat} (hu : 0 ≤ u ∧ u < 128 ^ i) (hx : 0 ≤ x ∧ x < 128) (hi : i ≤ 9) (h9 : ¬ (i = 9 ∧ 1 < x)) : x * 128 ^ i ≤ 9223372036854775808 ∧ u + x * 128 ^ i ≤ 18446744073709551615 ∧ (i ≤ 8 → u + x * 128 ^ i < 9223372036854775808) := by
  have hs := step_lt hu hx
  by_cases h : i = 9
  · subst h
    have hx1 : x ≤ 1 := by omega
    simp only [Int.reducePow] at *
    omega
  · have h8 := pow_le9 ⟨i+1, by omega⟩
    have e := pow128_nat (i+1)
    simp only [] at h8
    omega
theorem orW_add {u x : Int} {i : Nat} (hu : 0 ≤ u ∧ u < 128 ^ i) (hx : 0 ≤ x ∧ x < 128) (hi : i ≤ 9) (h9 : ¬ (i = 9 ∧ 1 < x)) : orW 64 u (x * 128 ^ i) = u + x * 128 ^ i := by
  have hf := fit64 hu hx hi h9
  have hp := pow128_nat i
  obtain ⟨a, rfl⟩ : ∃ a : Nat, u = (a : Int) := ⟨u.toNat, by omega⟩
  obtain ⟨b, rfl⟩ : ∃ b : Nat, x = (b : Int) := ⟨x.toNat, by omega⟩
  rw [hp] at hu hf ⊢
  rw [← Int.natCast_mul] at hf ⊢
  have ha : a < 2 ^ (7 * i) := by omega
  have h1 := Nat.shiftLeft_add_eq_or_of_lt ha b
  rw [Nat.shiftLeft_eq] at h1
  unfold orW
  rw [BitVec.toNat_or, BitVec.toNat_ofInt, BitVec.toNat_ofInt]
  have e1 : ((a : Int) % ((2 ^ 64 : Nat) : Int)).toNat = a := by omega
  have e2 : (((b * 2 ^ (7 * i) : Nat) : Int) % ((2 ^ 64 : Nat) : Int)).toNat = b * 2 ^ (7 * i) := by omega
  rw [e1, e2, Nat.or_comm, ← h1]
  omega
theorem rdS_cap {cap : Nat} : ∀ {i : Nat} {u : Int} {l : List Int}, cap ≤ i → rdS cap i u l = (0, 0, 3)
  | _, _, [], h => by simp [rdS, h]
  | _, _, _ :: _, h => by simp [rdS, h]
theorem getEnd {cap : Nat} {l : List Int} {i : Nat} {u : Int} (hi : (l.take cap).length = i) : rdS cap i u (l.drop i) = (if cap ≤ l.length then (0, 0, 3) else (0, 0, 2)) := by
  simp only [List.length_take] at hi
  by_cases h : cap ≤ l.length
  · rw [rdS_cap (by omega), if_pos h]
  · rw [List.drop_eq_nil_of_le (by omega), rdS, if_neg (by omega), if_neg h]
theorem get_t {l : List Int} {cap : Nat} (hb : okB l) (hl : l.length ≤ 4611686018427387904) (hc : cap ≤ 10) : varint_get l (cap : Int) = some (rdS cap 0 0 l) := by
  unfold varint_get
  have hh : headL l (if (cap : Int) < l.length then (cap : Int) else l.length) = some (l.take cap) := by
    by_cases h : (cap : Int) < l.length
    · rw [if_pos h, headL_ok (by omega) (by omega)]; rfl
    · rw [if_neg h, headL_ok (by omega) (by omega), List.take_of_length_le (by omega), List.take_of_length_le (by omega)]
  rw [hh, Option.bind_some]
  have htl : (l.take cap).length ≤ 10 := by simp; omega
  obtain ⟨o, ho, hq⟩ := forN_rule (body := varint_get.b1 (l.take cap)) (s := (0 : Int)) (n := (l.take cap).length) (fun j u => 0 ≤ u ∧ u < 128 ^ j ∧ rdS cap j u (l.drop j) = rdS cap 0 0 l)
    (fun o => (∃ s, o = .next s ∧ rdS cap 0 0 l = (if cap ≤ l.length then (0, 0, 3) else (0, 0, 2))) ∨ o = .ret (rdS cap 0 0 l)) (by omega) ⟨by omega, by simp, rfl⟩
    (fun j u hj hI => by
      obtain ⟨hu1, hu2, hI⟩ := hI
      have hjc : j < cap := by simp at hj; omega
      have hjl : j < l.length := by simp at hj; omega
      have hx := hb _ (List.getElem_mem hjl)
      have hlow : 0 ≤ l[j] % 128 ∧ l[j] % 128 < 128 := by omega
      have e1 : ixL (l.take cap) (j : Int) = some l[j] := ixL_of (by rw [List.getElem?_take_of_lt hjc]; exact List.getElem?_eq_getElem hjl)
      rw [List.drop_eq_getElem_cons hjl, rdS, if_neg (by omega)] at hI
      simp only [varint_get.b1, e1, Option.bind_some, clr8 hx, u64_id (n := l[j] % 128) (by omega) (by omega)]
      by_cases h9 : j = 9 ∧ 1 < l[j] % 128
      · rw [if_pos h9] at hI
        have e9 : ((j : Int) == 9) = true := by simp; omega
        refine ⟨.ret (0, 0, 3), by simp only [e9, h9.2, decide_true, ↓reduceIte], .inr (by rw [← hI])⟩
      · rw [if_neg h9] at hI
        have hj1 : (if ((j : Int) == 9) = true then if decide (1 < l[j] % 128) = true then some (.ret (0, 0, 3)) else varint_get.j1 u l[j] j else varint_get.j1 u l[j] j) = varint_get.j1 u l[j] j := by
          by_cases hj9 : j = 9
          · have : ¬ 1 < l[j] % 128 := fun h => h9 ⟨hj9, h⟩
            simp [this]
          · have : ((j : Int) == 9) = false := by simp; omega
            simp [this]
        rw [hj1]
        unfold varint_get.j1 varint_get.j2
        have hfit := fit64 (i := j) ⟨hu1, hu2⟩ hlow (by omega) h9
        have hst := step_lt (i := j) ⟨hu1, hu2⟩ hlow
        have hp : (0 : Int) ≤ l[j] % 128 * 128 ^ j := Int.mul_nonneg hlow.1 (Int.le_of_lt (Int.pow_pos (by omega)))
        have ev : u64 (orW 64 u (u64 (shlE (u64 (u8 (clrW 8 l[j] 128))) (w64 (7 * (j : Int))) 64))) = u + l[j] % 128 * 128 ^ j := by
          rw [(clr8 hx).1, u64_id (n := l[j] % 128) (by omega) (by omega), shl7 (by omega), u64_id (n := l[j] % 128 * 128 ^ j) (by omega) (by omega), orW_add ⟨hu1, hu2⟩ hlow (by omega) h9, u64_id (by omega) (by omega)]
        have ec : chkB (decide (¬ w64 (7 * (j : Int)) < 0)) () = some () := by unfold chkB; rw [if_pos]; rw [w64_id (by omega) (by omega)]; simp; omega
        rw [ec, Option.bind_some]
        simp only [ev, (clr8 hx).2, w64_id (n := (j : Int) + 1) (by omega) (by omega)]
        by_cases hs : l[j] < 128
        · rw [if_pos hs] at hI
          simp only [hs, not_true_eq_false, decide_false, Bool.false_eq_true, ↓reduceIte]
          by_cases hz : l[j] = 0 ∧ 0 < j
          · rw [if_pos hz] at hI
            have : (0 : Int) < j := by omega
            exact ⟨.ret (0, 0, 4), by simp [hz, this], .inr (by rw [← hI])⟩
          · rw [if_neg hz] at hI
            refine ⟨.ret (u + l[j] % 128 * 128 ^ j, (j : Int) + 1, 0), ?_, .inr (by rw [← hI])⟩
            by_cases hz0 : l[j] = 0
            · have : ¬ (0 : Int) < j := by omega
              simp [hz0]; omega
            · simp [hz0]
        · rw [if_neg hs] at hI
          simp only [hs, not_false_eq_true, decide_true, ↓reduceIte]
          exact ⟨_, rfl, hst.1, hst.2, hI⟩)
    (fun s hI => .inl ⟨s, rfl, by rw [← hI.2.2]; exact getEnd rfl⟩)
  rcases hq with ⟨s, rfl, hq⟩ | rfl
  · rw [aft_next ho, varint_get.k1, hq]
    by_cases h : cap ≤ l.length <;> simp [h]
  · rw [aft_ret ho]
theorem read_r {l : List Int} {cap : Nat} (hb : okB l) (hl : l.length ≤ 4611686018427387904) (hc : cap ≤ 10) : portolanref01_read l (cap : Int) = some (rdS cap 0 0 l) := by
  unfold portolanref01_read
  obtain ⟨o, ho, hq⟩ := forN_rule (body := portolanref01_read.b1 l (cap : Int)) (s := (0 : Int)) (n := l.length) (fun j u => j ≤ cap ∧ 0 ≤ u ∧ (j ≤ 9 → u < 128 ^ j) ∧ rdS cap j u (l.drop j) = rdS cap 0 0 l)
    (fun o => (∃ s, o = .next s ∧ l.length ≤ cap ∧ rdS cap 0 0 l = (if cap ≤ l.length then (0, 0, 3) else (0, 0, 2))) ∨ o = .ret (rdS cap 0 0 l)) hl ⟨by omega, by omega, by simp, rfl⟩
    (fun j u hj hI => by
      obtain ⟨hjc, hu1, hu2, hI⟩ := hI
      simp only [portolanref01_read.b1]
      by_cases hje : j = cap
      · subst hje
        rw [rdS_cap (Nat.le_refl _)] at hI
        exact ⟨.ret (0, 0, 3), by simp, .inr (by rw [← hI])⟩
      have hne : ((j : Int) == (cap : Int)) = false := by simp; omega
      have hu2 := hu2 (by omega)
      have hx := hb _ (List.getElem_mem hj)
      have hlow : 0 ≤ l[j] % 128 ∧ l[j] % 128 < 128 := by omega
      have em : Int.tmod l[j] 128 = l[j] % 128 := Int.tmod_eq_emod_of_nonneg (by omega)
      rw [List.drop_eq_getElem_cons hj, rdS, if_neg (by omega)] at hI
      simp only [hne, Bool.false_eq_true, ↓reduceIte, ixL_lt hj, Option.bind_some, em]
      by_cases h9 : j = 9 ∧ 1 < l[j] % 128
      · rw [if_pos h9] at hI
        have e9 : ((j : Int) == 9) = true := by simp; omega
        refine ⟨.ret (0, 0, 3), by simp only [e9, h9.2, decide_true, ↓reduceIte], .inr (by rw [← hI])⟩
      · rw [if_neg h9] at hI
        have hj1 : (if ((j : Int) == 9) = true then if decide (1 < l[j] % 128) = true then some (.ret (0, 0, 3)) else portolanref01_read.j1 l u j else portolanref01_read.j1 l u j) = portolanref01_read.j1 l u j := by
          by_cases hj9 : j = 9
          · have : ¬ 1 < l[j] % 128 := fun h => h9 ⟨hj9, h⟩
            simp [this]
          · have : ((j : Int) == 9) = false := by simp; omega
            simp [this]
        rw [hj1]
        unfold portolanref01_read.j1 portolanref01_read.j2
        have hfit := fit64 (i := j) ⟨hu1, hu2⟩ hlow (by omega) h9
        have hst := step_lt (i := j) ⟨hu1, hu2⟩ hlow
        have hp : (0 : Int) ≤ l[j] % 128 * 128 ^ j := Int.mul_nonneg hlow.1 (Int.le_of_lt (Int.pow_pos (by omega)))
        have ev : u64 (u + u64 (shlE (u64 (Int.tmod l[j] 128)) (u64 (w64 (7 * (j : Int)))) 64)) = u + l[j] % 128 * 128 ^ j := by
          have e7 : u64 (w64 (7 * (j : Int))) = w64 (7 * (j : Int)) := by rw [w64_id (by omega) (by omega)]; exact u64_id (by omega) (by omega)
          rw [em, e7, u64_id (n := l[j] % 128) (by omega) (by omega), shl7 (by omega), u64_id (n := l[j] % 128 * 128 ^ j) (by omega) (by omega), u64_id (by omega) (by omega)]
        have ec : chkB (decide (¬ u64 (w64 (7 * (j : Int))) < 0)) () = some () := by unfold chkB; rw [if_pos]; rw [w64_id (by omega) (by omega), u64_id (by omega) (by omega)]; simp; omega
        rw [ixL_lt hj, Option.bind_some, ec, Option.bind_some]
        simp only [ev, w64_id (n := (j : Int) + 1) (by omega) (by omega)]
        by_cases hs : l[j] < 128
        · rw [if_pos hs] at hI
          simp only [hs, decide_true, ↓reduceIte]
          by_cases hz : l[j] = 0 ∧ 0 < j
          · rw [if_pos hz] at hI
            have : (0 : Int) < j := by omega
            exact ⟨.ret (0, 0, 4), by simp [hz, this], .inr (by rw [← hI])⟩
          · rw [if_neg hz] at hI
            refine ⟨.ret (u + l[j] % 128 * 128 ^ j, (j : Int) + 1, 0), ?_, .inr (by rw [← hI])⟩
            by_cases hz0 : l[j] = 0
            · have : ¬ (0 : Int) < j := by omega
              simp [hz0]; omega
            · simp [hz0]
        · rw [if_neg hs] at hI
          simp only [hs, decide_false, Bool.false_eq_true, ↓reduceIte]
          exact ⟨_, rfl, by omega, hst.1, fun _ => hst.2, hI⟩)
    (fun s hI => .inl ⟨s, rfl, hI.1, by rw [← hI.2.2.2]; exact getEnd (by simp; omega)⟩)
  rcases hq with ⟨s, rfl, hle, hq⟩ | rfl
  · rw [aft_next ho, portolanref01_read.k1, hq]
    by_cases h : cap ≤ l.length
    · have : ((l.length : Int) == cap) = true := by simp; omega
      simp [h, this]
    · have : ((l.length : Int) == cap) = false := by simp; omega
      simp [h, this]
  · rw [aft_ret ho]
end Go.Pf
end
section
/- Numbers out of bytes: there and back. -/
namespace Go.Pf
open Go.Pp

/-- an unsigned number as a signed one -/
def unS (u : Int) : Int := if u % 2 = 1 then -(u / 2) - 1 else u / 2
theorem unS_turn (n : Int) : unS (turnS n : Int) = n := by unfold unS turnS; split <;> split <;> omega
theorem turn_unS {u : Int} (h : 0 ≤ u) : (turnS (unS u) : Int) = u := by unfold unS turnS; split <;> split <;> omega
theorem andW1 (u : Nat) (h : u < 18446744073709551616) : andW 64 (u : Int) 1 = ((u % 2 : Nat) : Int) := by
  unfold andW
  rw [BitVec.toNat_and, BitVec.toNat_ofInt, BitVec.toNat_ofInt]
  have e1 : ((u : Int) % ((2 ^ 64 : Nat) : Int)).toNat = u := by omega
  have e2 : ((1 : Int) % ((2 ^ 64 : Nat) : Int)).toNat = 1 := by decide
  rw [e1, e2, Nat.and_one_is_mod]
theorem unS_t {u : Int} (h0 : 0 ≤ u) (h1 : u < 18446744073709551616) : w64 (xorW 64 (w64 (shrE u 1 64)) (w64 (0 - (w64 (u64 (andW 64 u 1)))))) = unS u := by
  obtain ⟨n, rfl⟩ : ∃ n : Nat, u = (n : Int) := ⟨u.toNat, by omega⟩
  have e1 : shrE (n : Int) 1 64 = ((n / 2 : Nat) : Int) := by
    unfold shrE
    rw [show (2 : Int) ^ min (Int.toNat 1) 64 = 2 from rfl, Int.fdiv_eq_ediv_of_nonneg _ (by omega)]; omega
  rw [e1, andW1 n (by omega), u64_id (by omega) (by omega), w64_id (n := ((n % 2 : Nat) : Int)) (by omega) (by omega), w64_id (n := ((n / 2 : Nat) : Int)) (by omega) (by omega), w64_id (n := 0 - ((n % 2 : Nat) : Int)) (by omega) (by omega)]
  unfold unS
  by_cases hm : n % 2 = 1
  · have : (n : Int) % 2 = 1 := by omega
    rw [hm, if_pos this]
    have hx : xorW 64 ((n / 2 : Nat) : Int) (0 - ((1 : Nat) : Int)) = ((18446744073709551615 - n / 2 : Nat) : Int) := by
      unfold xorW
      rw [BitVec.toNat_xor, BitVec.toNat_ofInt, BitVec.toNat_ofInt]
      have e1 : (((n / 2 : Nat) : Int) % ((2 ^ 64 : Nat) : Int)).toNat = n / 2 := by omega
      have e2 : ((0 - ((1 : Nat) : Int)) % ((2 ^ 64 : Nat) : Int)).toNat = 2 ^ 64 - 1 := by decide
      rw [e1, e2, xor_ones (by omega)]
    rw [hx]
    unfold w64
    simp only []
    split <;> omega
  · have h2 : n % 2 = 0 := by omega
    have : ¬ (n : Int) % 2 = 1 := by omega
    rw [h2, if_neg this]
    have hx : xorW 64 ((n / 2 : Nat) : Int) (0 - ((0 : Nat) : Int)) = ((n / 2 : Nat) : Int) := by
      rw [show (0 - ((0 : Nat) : Int)) = ((0 : Nat) : Int) from rfl, xorW_nat (by omega) (by omega), Nat.xor_zero]
    rw [hx, w64_id (by omega) (by omega)]; omega

theorem rdS_err {cap : Nat} : ∀ {l : List Int} {i : Nat} {u : Int}, (rdS cap i u l).2.2 = 0 ∨ rdS cap i u l = (0, 0, (rdS cap i u l).2.2) ∧ 2 ≤ (rdS cap i u l).2.2 ∧ (rdS cap i u l).2.2 ≤ 4
  | [], i, u => by unfold rdS; split <;> simp
  | x :: r, i, u => by
    unfold rdS
    split
    · simp
    split
    · simp
    split
    · split <;> simp
    · exact rdS_err
theorem digS_lt : ∀ (k n : Nat), (digS n).length ≤ k → n < 128 ^ k
  | 0, n, h => by have := digS_pos n; omega
  | k+1, n, h => by
    by_cases hn : n < 128
    · have : 128 ^ 1 ≤ 128 ^ (k+1) := Nat.pow_le_pow_right (by omega) (by omega)
      omega
    · rw [digS_big hn, List.length_cons] at h
      have := digS_lt k (n / 128) (by omega)
      rw [Nat.pow_succ]; omega
theorem rdS_inv {cap : Nat} (hc : cap ≤ 10) : ∀ {l : List Int} {i : Nat} {u v n : Int}, okB l → 0 ≤ u → u < 128 ^ i → rdS cap i u l = (v, n, 0) →
    ∃ m : Nat, v = u + (m : Int) * 128 ^ i ∧ n = ((i + (digS m).length : Nat) : Int) ∧ l = digS m ++ l.drop (digS m).length ∧ i + (digS m).length ≤ cap ∧ (i = 0 ∨ m ≠ 0) ∧ v ≤ 18446744073709551615
  | [], i, u, v, n, hb, h0, h1, h => by unfold rdS at h; split at h <;> simp at h
  | x :: r, i, u, v, n, hb, h0, h1, h => by
    have hx := hb x (by simp)
    unfold rdS at h
    split at h
    · simp at h
    split at h
    · simp at h
    rename_i hi h9
    have hlow : 0 ≤ x % 128 ∧ x % 128 < 128 := by omega
    split at h
    · rename_i hs
      split at h
      · simp at h
      · rename_i hz
        simp only [Prod.mk.injEq, and_true] at h
        have ex : x % 128 = x := by omega
        rw [ex] at h hlow h9
        have em : digS x.toNat = [x] := by rw [digS_small (by omega)]; simp; omega
        refine ⟨x.toNat, by rw [show ((x.toNat : Nat) : Int) = x by omega]; exact h.1.symm, by rw [em]; simp; omega, by rw [em]; simp, by rw [em]; simp; omega, by omega, ?_⟩
        rw [← h.1]; exact (fit64 ⟨h0, h1⟩ hlow (by omega) h9).2.1
    · rename_i hs
      have hst := step_lt (i := i) ⟨h0, h1⟩ hlow
      obtain ⟨m, e1, e2, e3, e4, e5, e6⟩ := rdS_inv hc (fun a ha => hb a (List.mem_cons_of_mem _ ha)) hst.1 hst.2 h
      have hm : m ≠ 0 := by omega
      have ed : digS ((x % 128).toNat + 128 * m) = x :: digS m := by
        rw [digS_big (by omega)]
        congr 1
        · omega
        · congr 1; omega
      refine ⟨(x % 128).toNat + 128 * m, ?_, ?_, ?_, ?_, .inr (by omega), e6⟩
      · rw [e1, Int.pow_succ]
        have : (((x % 128).toNat + 128 * m : Nat) : Int) = x % 128 + 128 * m := by omega
        rw [this, Int.add_mul, Int.add_assoc]
        congr 2
        rw [Int.mul_comm (128 ^ i) 128, ← Int.mul_assoc, Int.mul_comm (m : Int) 128]
      · rw [ed, e2, List.length_cons]; omega
      · rw [ed]; simp only [List.length_cons, List.drop_succ_cons, List.cons_append]; rw [← e3]
      · rw [ed, List.length_cons]; omega
theorem pow9 {i : Nat} (h : 9 ≤ i) : (18446744073709551616 : Int) ≤ 2 * 128 ^ i := by
  have : (128 : Nat) ^ 9 ≤ 128 ^ i := Nat.pow_le_pow_right (by omega) h
  have e : ((128 : Int) ^ i) = ((128 ^ i : Nat) : Int) := by simp
  rw [e]; omega
theorem rdS_dig {cap : Nat} : ∀ (m i : Nat) (u : Int) (r : List Int), i + (digS m).length ≤ cap → (i = 0 ∨ m ≠ 0) → (m : Int) * 128 ^ i < 18446744073709551616 →
    rdS cap i u (digS m ++ r) = (u + (m : Int) * 128 ^ i, ((i + (digS m).length : Nat) : Int), 0) := by
  intro m
  induction m using Nat.strongRecOn with
  | _ m ih =>
    intro i u r hc hz hlt
    by_cases hm : m < 128
    · rw [digS_small hm] at hc ⊢
      simp only [List.length_singleton] at hc
      simp only [List.singleton_append, rdS]
      rw [if_neg (by omega), if_neg, if_pos (by omega), if_neg (by omega), show (m : Int) % 128 = m by omega]
      · simp
      · rintro ⟨rfl, h⟩
        have := pow9 (i := 9) (by omega)
        have h2 : 2 * (128 : Int) ^ 9 ≤ m * 128 ^ 9 := Int.mul_le_mul_of_nonneg_right (by omega) (by decide)
        omega
    · have hp : (0 : Int) < 128 ^ i := Int.pow_pos (by omega)
      rw [digS_big hm] at hc ⊢
      simp only [List.length_cons] at hc
      simp only [List.cons_append, rdS]
      have e1 : ((m % 128 + 128 : Nat) : Int) % 128 = ((m % 128 : Nat) : Int) := by omega
      have hmul : (m : Int) * 128 ^ i = ((m % 128 : Nat) : Int) * 128 ^ i + ((m / 128 : Nat) : Int) * 128 ^ (i+1) := by
        rw [Int.pow_succ, Int.mul_comm (128 ^ i) 128, ← Int.mul_assoc, ← Int.add_mul]
        congr 1; omega
      have hnn : 0 ≤ ((m % 128 : Nat) : Int) * 128 ^ i := Int.mul_nonneg (by omega) (Int.le_of_lt hp)
      rw [e1, if_neg (by omega), if_neg, if_neg (by omega), ih (m / 128) (by omega) (i+1) _ r (by omega) (by omega) (by omega), hmul]
      · simp only [Prod.mk.injEq, and_true, List.length_cons]
        exact ⟨by omega, by omega⟩
      · rintro ⟨rfl, h⟩
        have := digS_pos (m / 128)
        have h2 : 2 * (128 : Int) ^ 9 ≤ m * 128 ^ 9 := Int.mul_le_mul_of_nonneg_right (by omega) (by decide)
        have := pow9 (i := 9) (by omega)
        omega
theorem rdS_cut {cap : Nat} : ∀ (m i k : Nat) (u : Int), i + (digS m).length ≤ cap → (i = 0 ∨ m ≠ 0) → (m : Int) * 128 ^ i < 18446744073709551616 → k < (digS m).length →
    rdS cap i u ((digS m).take k) = (0, 0, 2) := by
  intro m
  induction m using Nat.strongRecOn with
  | _ m ih =>
    intro i k u hc hz hlt hk
    cases k with
    | zero => have := digS_pos m; simp only [List.take_zero, rdS]; rw [if_neg (by omega)]
    | succ k =>
      by_cases hm : m < 128
      · rw [digS_small hm] at hk; simp at hk
      · have hp : (0 : Int) < 128 ^ i := Int.pow_pos (by omega)
        rw [digS_big hm] at hc hk ⊢
        simp only [List.length_cons] at hc hk
        simp only [List.take_succ_cons, rdS]
        have e1 : ((m % 128 + 128 : Nat) : Int) % 128 = ((m % 128 : Nat) : Int) := by omega
        have hmul : (m : Int) * 128 ^ i = ((m % 128 : Nat) : Int) * 128 ^ i + ((m / 128 : Nat) : Int) * 128 ^ (i+1) := by
          rw [Int.pow_succ, Int.mul_comm (128 ^ i) 128, ← Int.mul_assoc, ← Int.add_mul]
          congr 1; omega
        have hnn : 0 ≤ ((m % 128 : Nat) : Int) * 128 ^ i := Int.mul_nonneg (by omega) (Int.le_of_lt hp)
        rw [e1, if_neg (by omega), if_neg, if_neg (by omega), ih (m / 128) (by omega) (i+1) k _ (by omega) (by omega) (by omega) (by omega)]
        rintro ⟨rfl, h⟩
        have := digS_pos (m / 128)
        have h2 : 2 * (128 : Int) ^ 9 ≤ m * 128 ^ 9 := Int.mul_le_mul_of_nonneg_right (by omega) (by decide)
        have := pow9 (i := 9) (by omega)
        omega
theorem rdS_nonneg {cap : Nat} (hc : cap ≤ 10) {l : List Int} (hb : okB l) : 0 ≤ (rdS cap 0 0 l).1 ∧ (rdS cap 0 0 l).1 ≤ 18446744073709551615 ∧ (cap ≤ 9 → (rdS cap 0 0 l).1 ≤ 9223372036854775807) := by
  rcases rdS_err (cap := cap) (l := l) (i := 0) (u := 0) with h | h
  · obtain ⟨m, e1, e2, e3, e4, e5, e6⟩ := rdS_inv hc hb (by omega) (by simp) (Prod.ext rfl (Prod.ext rfl h) : rdS cap 0 0 l = ((rdS cap 0 0 l).1, (rdS cap 0 0 l).2.1, 0))
    simp only [Int.pow_zero, Int.mul_one] at e1
    refine ⟨by omega, e6, fun h9 => ?_⟩
    have := digS_lt 9 m (by omega)
    have h9 : (128 : Nat) ^ 9 = 9223372036854775808 := by decide
    omega
  · rw [h.1]; simp
theorem Get_t {l : List Int} (hb : okB l) (hl : l.length ≤ 4611686018427387904) : varint_Get l = some (rdS 9 0 0 l) := by
  unfold varint_Get
  have := rdS_nonneg (cap := 9) (by omega) hb
  rw [show (9 : Int) = ((9 : Nat) : Int) from rfl, get_t hb hl (by omega), Option.bind_some, w64_id (by omega) (by omega)]
theorem Get_r {l : List Int} (hb : okB l) (hl : l.length ≤ 4611686018427387904) : portolanref01_Get l = some (rdS 9 0 0 l) := by
  unfold portolanref01_Get
  have := rdS_nonneg (cap := 9) (by omega) hb
  rw [show (9 : Int) = ((9 : Nat) : Int) from rfl, read_r hb hl (by omega), Option.bind_some, w64_id (by omega) (by omega)]
theorem GetSigned_t {l : List Int} (hb : okB l) (hl : l.length ≤ 4611686018427387904) : varint_GetSigned l = some (unS (rdS 10 0 0 l).1, (rdS 10 0 0 l).2.1, (rdS 10 0 0 l).2.2) := by
  unfold varint_GetSigned
  have := rdS_nonneg (cap := 10) (by omega) hb
  rw [show (10 : Int) = ((10 : Nat) : Int) from rfl, get_t hb hl (by omega), Option.bind_some, unS_t (by omega) (by omega)]
theorem GetSigned_r {l : List Int} (hb : okB l) (hl : l.length ≤ 4611686018427387904) : portolanref01_GetSigned l = some (unS (rdS 10 0 0 l).1, (rdS 10 0 0 l).2.1, (rdS 10 0 0 l).2.2) := by
  unfold portolanref01_GetSigned
  have := rdS_nonneg (cap := 10) (by omega) hb
  rw [show (10 : Int) = ((10 : Nat) : Int) from rfl, read_r hb hl (by omega), Option.bind_some]
  generalize rdS 10 0 0 l = x at *
  rw [Int.tmod_eq_emod_of_nonneg (by omega), Int.tdiv_eq_ediv_of_nonneg (by omega)]
  unfold unS
  rw [u64_id (by omega) (by omega), w64_id (n := x.1 / 2) (by omega) (by omega), w64_id (n := 0 - x.1 / 2) (by omega) (by omega), w64_id (n := 0 - x.1 / 2 - 1) (by omega) (by omega)]
  by_cases h : x.1 % 2 = 1
  · simp [h]
  · simp [h]
end Go.Pf
end
section
/- Texts out of bytes: the parts of it. -/
namespace Go.Pf
open Go.Pp

/-- what reading comes to: a value and what is left, or an error -/
inductive Rs (α : Type) where
  | ok (v : α) (r : List Int)
  | bad (e : Int)
def big : Int := 9223372036854775807
def numR (sg : Bool) (l : List Int) : Int × Int × Int := if sg then (unS (rdS 10 0 0 l).1, (rdS 10 0 0 l).2.1, (rdS 10 0 0 l).2.2) else rdS 9 0 0 l
def numQ (lo hi : Int) (l : List Int) (x : Int × Int × Int) : Rs Int := if x.2.2 = 0 then (if lo ≤ x.1 ∧ x.1 ≤ hi then .ok x.1 (l.drop x.2.1.toNat) else .bad 5) else .bad x.2.2
def numP (sg : Bool) (lo hi : Int) (l : List Int) : Rs Int := numQ lo hi l (numR sg l)
theorem numP_ok {sg : Bool} {lo hi : Int} {l r : List Int} {v : Int} (hb : okB l) (h : numP sg lo hi l = .ok v r) :
    lo ≤ v ∧ v ≤ hi ∧ okI v ∧ l = (if sg then sgnS v else putS v) ++ r ∧ (sg = false → 0 ≤ v) := by
  unfold numP numQ at h
  split at h
  case isFalse => cases h
  rename_i h0
  split at h
  case isFalse => cases h
  rename_i hr
  simp only [Rs.ok.injEq] at h
  obtain ⟨rfl, rfl⟩ := h
  refine ⟨hr.1, hr.2, ?_⟩
  clear hr
  cases sg
  · simp only [numR, Bool.false_eq_true, ↓reduceIte] at h0 ⊢
    have hn := rdS_nonneg (cap := 9) (by omega) hb
    obtain ⟨m, e1, e2, e3, e4, e5, e6⟩ := rdS_inv (cap := 9) (by omega) hb (by omega) (by simp) (Prod.ext rfl (Prod.ext rfl h0) : rdS 9 0 0 l = ((rdS 9 0 0 l).1, (rdS 9 0 0 l).2.1, 0))
    simp only [Int.pow_zero, Int.mul_one, Int.zero_add, Nat.zero_add] at e1 e2
    have hn2 := hn.2.2 (by omega)
    rw [e1] at hn2 ⊢
    rw [e2, Int.toNat_natCast]
    refine ⟨⟨by omega, hn2⟩, ?_, fun _ => by omega⟩
    unfold putS
    rw [if_neg (by omega), Int.toNat_natCast]; exact e3
  · simp only [numR, ↓reduceIte] at h0 ⊢
    have hn := rdS_nonneg (cap := 10) (by omega) hb
    obtain ⟨m, e1, e2, e3, e4, e5, e6⟩ := rdS_inv (cap := 10) (by omega) hb (by omega) (by simp) (Prod.ext rfl (Prod.ext rfl h0) : rdS 10 0 0 l = ((rdS 10 0 0 l).1, (rdS 10 0 0 l).2.1, 0))
    simp only [Int.pow_zero, Int.mul_one, Int.zero_add, Nat.zero_add] at e1 e2
    have hn2 := hn.2.1
    rw [e1] at hn2 ⊢
    rw [e2, Int.toNat_natCast]
    refine ⟨by unfold unS okI; split <;> omega, ?_, by simp⟩
    unfold sgnS
    have := turn_unS (u := (m : Int)) (by omega)
    rw [show turnS (unS (m : Int)) = m by omega]; exact e3
theorem numP_put {v lo hi : Int} {r : List Int} (h : okI v) (h0 : 0 ≤ v) (h1 : lo ≤ v) (h2 : v ≤ hi) : numP false lo hi (putS v ++ r) = .ok v r := by
  unfold okI at h
  have hl : (digS v.toNat).length ≤ 9 := digS_len 8 v.toNat (by have : (128 : Nat) ^ (8+1) = 9223372036854775808 := by decide
                                                                omega)
  have : rdS 9 0 0 (putS v ++ r) = (v, ((digS v.toNat).length : Int), 0) := by
    unfold putS
    rw [if_neg (by omega), rdS_dig _ _ _ _ (by omega) (.inl rfl) (by simp; omega)]
    simp; omega
  unfold numP numQ numR
  simp only [Bool.false_eq_true, ↓reduceIte, this, h1, h2, and_self, Int.toNat_natCast]
  unfold putS
  rw [if_neg (by omega)]; simp
theorem numP_sgn {v : Int} {r : List Int} (h : okI v) : numP true (-big-1) big (sgnS v ++ r) = .ok v r := by
  have ht := turnS_lt h
  have hl := sgnS_len h
  have : rdS 10 0 0 (sgnS v ++ r) = ((turnS v : Int), ((sgnS v).length : Int), 0) := by
    unfold sgnS at *
    rw [rdS_dig _ _ _ _ (by omega) (.inl rfl) (by simp; omega)]
    simp
  unfold okI at h
  unfold numP numQ numR big
  simp only [↓reduceIte, this, unS_turn, Int.toNat_natCast]
  rw [if_pos (by omega)]; simp
theorem numP_cut {v lo hi : Int} {k : Nat} (h : okI v) (h0 : 0 ≤ v) (hk : k < (putS v).length) : numP false lo hi ((putS v).take k) = .bad 2 := by
  unfold okI at h
  have hl : (digS v.toNat).length ≤ 9 := digS_len 8 v.toNat (by have : (128 : Nat) ^ (8+1) = 9223372036854775808 := by decide
                                                                omega)
  have e : putS v = digS v.toNat := by unfold putS; rw [if_neg (by omega)]
  rw [e] at hk ⊢
  unfold numP numQ numR
  simp only [Bool.false_eq_true, ↓reduceIte, rdS_cut (cap := 9) v.toNat 0 k 0 (by omega) (.inl rfl) (by simp; omega) hk]
  rfl
theorem numP_scut {v lo hi : Int} {k : Nat} (h : okI v) (hk : k < (sgnS v).length) : numP true lo hi ((sgnS v).take k) = .bad 2 := by
  have ht := turnS_lt h
  have hl := sgnS_len h
  unfold sgnS at *
  unfold numP numQ numR
  simp only [↓reduceIte, rdS_cut (cap := 10) (turnS v) 0 k 0 (by omega) (.inl rfl) (by simp; omega) hk]
  rfl

def PostT {α : Type} (o : Option (text_reader × α)) (n : Nat) (Z : α → Prop) : Rs α → Prop
  | .ok v r => o = some (⟨r, 0⟩, v) ∧ okB r ∧ r.length ≤ n
  | .bad e => e ≠ 0 ∧ ∃ b v, o = some (⟨b, e⟩, v) ∧ okB b ∧ b.length ≤ n ∧ Z v
def PostR {α : Type} (o : Option (portolanref19_reader × α)) (n : Nat) (Z : α → Prop) : Rs α → Prop
  | .ok v r => o = some (⟨r, 0⟩, v) ∧ okB r ∧ r.length ≤ n
  | .bad e => e ≠ 0 ∧ ∃ b v, o = some (⟨b, e⟩, v) ∧ okB b ∧ b.length ≤ n ∧ Z v
/-- the program's reader does as the parser does -/
def SimT {α : Type} (f : text_reader → Option (text_reader × α)) (p : List Int → Rs α) (Z : α → Prop) : Prop :=
  ∀ l, okB l → l.length ≤ 4611686018427387904 → PostT (f ⟨l, 0⟩) l.length Z (p l) ∧ ∀ e, e ≠ 0 → ∃ v, f ⟨l, e⟩ = some (⟨l, e⟩, v) ∧ Z v
def SimR {α : Type} (f : portolanref19_reader → Option (portolanref19_reader × α)) (p : List Int → Rs α) (Z : α → Prop) : Prop :=
  ∀ l, okB l → l.length ≤ 4611686018427387904 → PostR (f ⟨l, 0⟩) l.length Z (p l) ∧ ∀ e, e ≠ 0 → ∃ v, f ⟨l, e⟩ = some (⟨l, e⟩, v) ∧ Z v
theorem okB_drop {l : List Int} (h : okB l) (k : Nat) : okB (l.drop k) := fun a ha => h a (List.mem_of_mem_drop ha)
theorem okB_of_app {l r : List Int} (h : okB (l ++ r)) : okB r := fun a ha => h a (List.mem_append_right _ ha)
theorem rdS_size {cap : Nat} (hc : cap ≤ 10) {l : List Int} (hb : okB l) (h0 : (rdS cap 0 0 l).2.2 = 0) : 0 ≤ (rdS cap 0 0 l).2.1 ∧ (rdS cap 0 0 l).2.1 ≤ l.length := by
  obtain ⟨m, e1, e2, e3, e4, e5, e6⟩ := rdS_inv hc hb (by omega) (by simp) (Prod.ext rfl (Prod.ext rfl h0) : rdS cap 0 0 l = ((rdS cap 0 0 l).1, (rdS cap 0 0 l).2.1, 0))
  have := congrArg List.length e3
  simp only [List.length_append, List.length_drop] at this
  omega
theorem within_sim (lo hi : Int) (h : lo ≤ hi ∨ 0 < lo) : SimT (fun r => text_reader_within r lo hi) (numP false lo hi) (fun v => v = 0) := by
  intro l hb hl
  have he := rdS_err (cap := 9) (l := l) (i := 0) (u := 0)
  have hn := rdS_nonneg (cap := 9) (by omega) hb
  constructor
  · unfold numP numQ numR text_reader_within text_reader_take
    simp only [bne_self_eq_false, Bool.false_eq_true, ↓reduceIte, Get_t hb hl, Option.bind_some]
    by_cases h0 : (rdS 9 0 0 l).2.2 = 0
    · have hs := rdS_size (by omega) hb h0
      simp only [h0, ↓reduceIte, bne_self_eq_false, Bool.false_eq_true]
      rw [tailL_ok hs.1 hs.2, Option.bind_some]
      simp only [beq_self_eq_true, ↓reduceIte, within_t, Option.bind_some]
      by_cases hr : lo ≤ (rdS 9 0 0 l).1 ∧ (rdS 9 0 0 l).1 ≤ hi
      · rw [if_pos hr]
        simp only [hr, and_self, decide_true, ↓reduceIte, text_reader_within.j1, bne_self_eq_false, Bool.false_eq_true]
        exact ⟨rfl, okB_drop hb _, by simp⟩
      · rw [if_neg hr]
        simp only [hr, decide_false, Bool.false_eq_true, ↓reduceIte, text_reader_within.j1]
        exact ⟨by decide, _, _, rfl, okB_drop hb _, by simp, rfl⟩
    · have e2 : ((rdS 9 0 0 l).2.2 != 0) = true := by simp [h0]
      have e3 : ((rdS 9 0 0 l).2.2 == 0) = false := by simp [h0]
      simp only [h0, e2, e3, ↓reduceIte, Option.bind_some, text_reader_within.j1, Bool.false_eq_true]
      exact ⟨h0, _, _, rfl, hb, Nat.le_refl _, rfl⟩
  · intro e he
    have e2 : (e != 0) = true := by simp [he]
    have e3 : (e == 0) = false := by simp [he]
    unfold text_reader_within text_reader_take
    simp only [e2, e3, ↓reduceIte, Option.bind_some, text_reader_within.j1, Bool.false_eq_true]
    exact ⟨_, rfl, rfl⟩
theorem unS_ok {u : Int} (h0 : 0 ≤ u) (h1 : u ≤ 18446744073709551615) : -big-1 ≤ unS u ∧ unS u ≤ big := by unfold unS big; split <;> omega
theorem signed_sim : SimT (fun r => text_reader_take r varint_GetSigned) (numP true (-big-1) big) (fun v => v = 0) := by
  intro l hb hl
  have hn := rdS_nonneg (cap := 10) (by omega) hb
  constructor
  · unfold numP numQ numR text_reader_take
    simp only [bne_self_eq_false, Bool.false_eq_true, ↓reduceIte, GetSigned_t hb hl, Option.bind_some]
    by_cases h0 : (rdS 10 0 0 l).2.2 = 0
    · have hs := rdS_size (by omega) hb h0
      simp only [h0, ↓reduceIte, bne_self_eq_false, Bool.false_eq_true]
      rw [tailL_ok hs.1 hs.2, Option.bind_some, if_pos (unS_ok hn.1 hn.2.1)]
      exact ⟨rfl, okB_drop hb _, by simp⟩
    · have e2 : ((rdS 10 0 0 l).2.2 != 0) = true := by simp [h0]
      simp only [h0, e2, ↓reduceIte]
      exact ⟨h0, _, _, rfl, hb, Nat.le_refl _, rfl⟩
  · intro e he
    have e2 : (e != 0) = true := by simp [he]
    unfold text_reader_take
    simp only [e2, ↓reduceIte]
    exact ⟨_, rfl, rfl⟩
theorem num_sim (sg : Bool) (lo hi : Int) : SimR (fun r => portolanref19_reader_num r sg lo hi) (numP sg lo hi) (fun v => v = 0) := by
  intro l hb hl
  constructor
  · have key : ∀ x : Int × Int × Int, (x.2.2 = 0 → 0 ≤ x.2.1 ∧ x.2.1 ≤ l.length) →
        PostR (portolanref19_reader_num.j1 ⟨l, 0⟩ lo hi x.1 x.2.1 x.2.2) l.length (fun v => v = 0) (numQ lo hi l x) := by
      intro x hs
      unfold numQ portolanref19_reader_num.j1 portolanref19_reader_num.j2
      by_cases h0 : x.2.2 = 0
      · have hs := hs h0
        simp only [h0, ↓reduceIte, beq_self_eq_true]
        by_cases hr1 : x.1 < lo
        · rw [if_neg (show ¬ (lo ≤ x.1 ∧ x.1 ≤ hi) by omega)]
          simp only [hr1, decide_true, ↓reduceIte]
          exact ⟨by decide, _, _, rfl, hb, Nat.le_refl _, rfl⟩
        by_cases hr2 : hi < x.1
        · rw [if_neg (show ¬ (lo ≤ x.1 ∧ x.1 ≤ hi) by omega)]
          simp only [hr1, hr2, decide_true, decide_false, Bool.false_eq_true, ↓reduceIte]
          exact ⟨by decide, _, _, rfl, hb, Nat.le_refl _, rfl⟩
        rw [if_pos (show lo ≤ x.1 ∧ x.1 ≤ hi by omega)]
        simp only [hr1, hr2, decide_false, Bool.false_eq_true, ↓reduceIte, bne_self_eq_false]
        rw [tailL_ok hs.1 hs.2, Option.bind_some]
        exact ⟨rfl, okB_drop hb _, by simp⟩
      · have e2 : (x.2.2 != 0) = true := by simp [h0]
        have e3 : (x.2.2 == 0) = false := by simp [h0]
        simp only [h0, e2, e3, ↓reduceIte, Bool.false_eq_true]
        exact ⟨h0, _, _, rfl, hb, Nat.le_refl _, rfl⟩
    unfold numP numR portolanref19_reader_num
    simp only [bne_self_eq_false, Bool.false_eq_true, ↓reduceIte, Get_r hb hl, GetSigned_r hb hl, Option.bind_some]
    cases sg
    · simp only [Bool.false_eq_true, ↓reduceIte]
      exact key (rdS 9 0 0 l) (fun h0 => rdS_size (by omega) hb h0)
    · simp only [↓reduceIte]
      exact key (unS (rdS 10 0 0 l).1, (rdS 10 0 0 l).2.1, (rdS 10 0 0 l).2.2) (fun h0 => rdS_size (by omega) hb h0)
  · intro e he
    have e2 : (e != 0) = true := by simp [he]
    unfold portolanref19_reader_num
    simp only [e2, ↓reduceIte]
    exact ⟨_, rfl, rfl⟩
def placeS (n : Int) : Option Loc := if n ≤ 0 then none else if n % 2 = 1 then (if 31 < n / 2 then none else some ⟨1, n / 2⟩) else some ⟨2, n / 2 - 1⟩
def locP (l : List Int) : Rs Loc := match numP false 0 big l with
  | .ok n r => (match placeS n with | some x => .ok x r | none => .bad 5)
  | .bad e => .bad e
theorem place_t {n : Int} (h0 : 0 ≤ n) (h1 : n ≤ big) : text_place n = some (match placeS n with | some x => (x, true) | none => (⟨0, 0⟩, false)) := by
  unfold big at h1
  unfold text_place placeS
  have em : Int.tmod n 2 = n % 2 := Int.tmod_eq_emod_of_nonneg (by omega)
  have ed : Int.tdiv n 2 = n / 2 := Int.tdiv_eq_ediv_of_nonneg (by omega)
  by_cases hz : n = 0
  · simp [hz]
  · have e0 : (n == 0) = false := by simp [hz]
    have e1 : ¬ n ≤ 0 := by omega
    simp only [e0, e1, Bool.false_eq_true, ↓reduceIte, em, ed]
    rw [w64_id (n := n / 2) (by omega) (by omega)]
    by_cases hm : n % 2 = 1
    · have e2 : (n % 2 == 1) = true := by simp [hm]
      by_cases h31 : 31 < n / 2
      · have : 32 ≤ n / 2 := by omega
        simp [hm, h31, this]
      · have e3 : ¬ 32 ≤ n / 2 := by omega
        simp only [e2, e3, hm, h31, decide_false, Bool.false_eq_true, ↓reduceIte, text_place.j1, em]
        rw [w64_id (n := 2 - 1) (by omega) (by omega), w64_id (n := n - (2 - 1)) (by omega) (by omega), Int.tdiv_eq_ediv_of_nonneg (by omega), w64_id (by omega) (by omega)]
        have e : (n - (2 - 1)) / 2 = n / 2 := by omega
        rw [e]; rfl
    · have e2 : (n % 2 == 1) = false := by simp [hm]
      have e3 : n % 2 = 0 := by omega
      simp only [e2, hm, Bool.false_eq_true, ↓reduceIte, text_place.j1, em, e3]
      rw [w64_id (n := 2 - 0) (by omega) (by omega), w64_id (n := n - (2 - 0)) (by omega) (by omega), Int.tdiv_eq_ediv_of_nonneg (by omega), w64_id (by omega) (by omega)]
      have e : (n - (2 - 0)) / 2 = n / 2 - 1 := by omega
      rw [e]; rfl
theorem place_r {n : Int} (h0 : 0 ≤ n) (h1 : n ≤ big) : portolanref19_Uncode n = some (match placeS n with | some x => (x, true) | none => (⟨0, 0⟩, false)) := by
  unfold big at h1
  unfold portolanref19_Uncode placeS
  have em : Int.tmod n 2 = n % 2 := Int.tmod_eq_emod_of_nonneg (by omega)
  have ed : Int.tdiv n 2 = n / 2 := Int.tdiv_eq_ediv_of_nonneg (by omega)
  by_cases hz : n ≤ 0
  · simp [hz]
  · simp only [hz, decide_false, Bool.false_eq_true, ↓reduceIte, em, ed]
    rw [w64_id (n := n / 2) (by omega) (by omega)]
    by_cases hm : n % 2 = 1
    · have e2 : (n % 2 == 1) = true := by simp [hm]
      by_cases h31 : 31 < n / 2
      · simp [hm, h31]
      · simp only [e2, hm, h31, decide_false, Bool.false_eq_true, ↓reduceIte, portolanref19_Uncode.j1, em, ed]
        rw [w64_id (n := n / 2) (by omega) (by omega)]; rfl
    · have e2 : (n % 2 == 1) = false := by simp [hm]
      simp only [e2, hm, Bool.false_eq_true, ↓reduceIte, portolanref19_Uncode.j1, em, ed]
      rw [w64_id (n := n / 2) (by omega) (by omega), w64_id (n := n / 2 - 1) (by omega) (by omega)]
theorem place_zero_t : text_place 0 = some (⟨0, 0⟩, false) := rfl
theorem loc_t : SimT text_reader_loc locP (fun v => v = ⟨0, 0⟩) := by
  intro l hb hl
  have hw := within_sim 0 9223372036854775807 (by omega) l hb hl
  constructor
  · have hw := hw.1
    unfold locP text_reader_loc
    have hbig : big = 9223372036854775807 := rfl
    rw [← hbig] at hw ⊢
    cases hp : numP false 0 big l with
    | ok n r =>
      rw [hp] at hw
      simp only [PostT, PostR] at hw ⊢
      have hn := numP_ok hb hp
      rw [hw.1, Option.bind_some]
      simp only [place_t hn.1 hn.2.1, Option.bind_some]
      cases placeS n with
      | some x => simp only [↓reduceIte, true_and]; exact hw.2
      | none => simp only [Bool.false_eq_true, ↓reduceIte, beq_self_eq_true]; exact ⟨by decide, _, _, rfl, hw.2.1, hw.2.2, rfl⟩
    | bad e =>
      rw [hp] at hw
      obtain ⟨he, b, v, h1, h2, h3, rfl⟩ := hw
      simp only [PostT, PostR] at h1 ⊢
      have e3 : (e == 0) = false := by simp [he]
      rw [h1, Option.bind_some]
      simp only [place_zero_t, Option.bind_some, e3, Bool.false_eq_true, ↓reduceIte]
      exact ⟨he, _, _, rfl, h2, h3, rfl⟩
  · intro e he
    obtain ⟨v, h1, rfl⟩ := hw.2 e he
    simp only [] at h1
    have e3 : (e == 0) = false := by simp [he]
    unfold text_reader_loc
    rw [h1, Option.bind_some]
    simp only [place_zero_t, Option.bind_some, e3, Bool.false_eq_true, ↓reduceIte]
    exact ⟨_, rfl, rfl⟩
theorem loc_r : SimR portolanref19_reader_loc locP (fun v => v = ⟨0, 0⟩) := by
  intro l hb hl
  have hw := num_sim false 0 9223372036854775807 l hb hl
  constructor
  · have hw := hw.1
    unfold locP portolanref19_reader_loc
    have hbig : big = 9223372036854775807 := rfl
    rw [← hbig] at hw ⊢
    cases hp : numP false 0 big l with
    | ok n r =>
      rw [hp] at hw
      simp only [PostT, PostR] at hw ⊢
      have hn := numP_ok hb hp
      rw [hw.1, Option.bind_some]
      simp only [place_r hn.1 hn.2.1, Option.bind_some, bne_self_eq_false, Bool.false_eq_true, ↓reduceIte]
      cases placeS n with
      | some x => simp only [↓reduceIte, true_and]; exact hw.2
      | none => simp only [Bool.false_eq_true, ↓reduceIte]; exact ⟨by decide, _, _, rfl, hw.2.1, hw.2.2, rfl⟩
    | bad e =>
      rw [hp] at hw
      obtain ⟨he, b, v, h1, h2, h3, rfl⟩ := hw
      simp only [PostT, PostR] at h1 ⊢
      have e3 : (e != 0) = true := by simp [he]
      rw [h1, Option.bind_some]
      simp only [e3, ↓reduceIte]
      exact ⟨he, _, _, rfl, h2, h3, rfl⟩
  · intro e he
    obtain ⟨v, h1, rfl⟩ := hw.2 e he
    simp only [] at h1
    have e3 : (e != 0) = true := by simp [he]
    unfold portolanref19_reader_loc
    rw [h1, Option.bind_some]
    simp only [e3, ↓reduceIte]
    exact ⟨_, rfl, rfl⟩
end Go.Pf
end
section
/- Texts out of bytes: an instruction. -/
namespace Go.Pf
open Go.Pp

def argsP : Nat → List Loc → List Int → Rs (List Loc)
  | 0, a, l => .ok a l
  | k+1, a, l => match locP l with
    | .ok x r => argsP k (a ++ [x]) r
    | .bad e => .bad e
def mapR {α β : Type} (f : α → β) : Rs α → Rs β
  | .ok v r => .ok (f v) r
  | .bad e => .bad e
def bindR {α β : Type} (x : Rs α) (f : α → List Int → Rs β) : Rs β := match x with
  | .ok v r => f v r
  | .bad e => .bad e
def fieldP (c : Int) (x : Mins) (l : List Int) : Rs Mins :=
  if c = 78 then mapR (fun v => { x with N := v }) (numP false 0 big l)
  else if c = 77 then mapR (fun v => { x with M := v }) (numP false 0 big l)
  else if c = 110 then mapR (fun v => { x with N := v }) (numP true (-big-1) big l)
  else if c = 76 then bindR (numP false 0 4 l) (fun n r => mapR (fun v => { x with Args := v }) (argsP n.toNat x.Args r))
  else if c = 68 then mapR (fun v => { x with D := v }) (locP l)
  else if c = 65 then mapR (fun v => { x with A := v }) (locP l)
  else if c = 66 then mapR (fun v => { x with B := v }) (locP l)
  else mapR (fun v => { x with C := v }) (locP l)
def lettersP : List Int → Mins → List Int → Rs Mins
  | [], x, l => .ok x l
  | c :: cs, x, l => bindR (fieldP c x l) (lettersP cs)
def zeroI (op : Int) : Mins := ⟨op, ⟨0, 0⟩, ⟨0, 0⟩, ⟨0, 0⟩, ⟨0, 0⟩, 0, 0, []⟩
def insP (l : List Int) : Rs Mins := bindR (numP false 0 big l) (fun op r => if (PS op).2 then lettersP (LS op) (zeroI op) r else .bad 5)
abbrev StI := List Loc × Int × Int × Int × Int × Int × Int × Int × Int × Int × Int × List Int × Int
def stI (x : Mins) (b : List Int) (e : Int) : StI := (x.Args, x.D.Kind, x.D.N, x.A.Kind, x.A.N, x.B.Kind, x.B.N, x.C.Kind, x.C.N, x.N, x.M, b, e)

theorem args_t : ∀ (k i : Nat) (a : List Loc) (l : List Int), okB l → l.length ≤ 4611686018427387904 → a.length + k ≤ 10000 →
    (match argsP k a l with
      | .ok a' r => forF text_reader_ins.b2 k i (a, l, 0) = some (.next (a', r, 0)) ∧ okB r ∧ r.length ≤ l.length ∧ a'.length = a.length + k
      | .bad e => e ≠ 0 ∧ ∃ a' b, forF text_reader_ins.b2 k i (a, l, 0) = some (.next (a', b, e)) ∧ okB b ∧ b.length ≤ l.length ∧ a'.length = a.length + k) ∧
    ∀ e, e ≠ 0 → ∃ a', forF text_reader_ins.b2 k i (a, l, e) = some (.next (a', l, e)) ∧ a'.length = a.length + k
  | 0, i, a, l, hb, hl, ha => ⟨⟨rfl, hb, Nat.le_refl _, rfl⟩, fun e _ => ⟨a, rfl, rfl⟩⟩
  | k+1, i, a, l, hb, hl, ha => by
    have hs := loc_t l hb hl
    constructor
    · have h1 := hs.1
      unfold argsP
      simp only [forF, text_reader_ins.b2]
      cases hp : locP l with
      | ok x r =>
        rw [hp] at h1
        simp only [PostT] at h1 ⊢
        rw [h1.1, Option.bind_some, appL_ok (by simp; omega), Option.bind_some]
        have ih := (args_t k (i+1) (a ++ [x]) r h1.2.1 (by omega) (by simp; omega)).1
        cases hq : argsP k (a ++ [x]) r with
        | ok a' r' => rw [hq] at ih; simp only [] at ih ⊢; refine ⟨ih.1, ih.2.1, by omega, by rw [ih.2.2.2]; simp; omega⟩
        | bad e =>
          rw [hq] at ih
          obtain ⟨he, a', b, i1, i2, i3, i4⟩ := ih
          exact ⟨he, a', b, i1, i2, by omega, by rw [i4]; simp; omega⟩
      | bad e =>
        rw [hp] at h1
        obtain ⟨he, b, v, i1, i2, i3, i4⟩ := h1
        rw [i1, Option.bind_some, appL_ok (by simp; omega), Option.bind_some]
        obtain ⟨a', j1, j2⟩ := (args_t k (i+1) (a ++ [v]) b i2 (by omega) (by simp; omega)).2 e he
        exact ⟨he, a', b, j1, i2, i3, by rw [j2]; simp; omega⟩
    · intro e he
      obtain ⟨v, i1, i2⟩ := hs.2 e he
      simp only [forF, text_reader_ins.b2]
      rw [i1, Option.bind_some, appL_ok (by simp; omega), Option.bind_some]
      obtain ⟨a', j1, j2⟩ := (args_t k (i+1) (a ++ [v]) l hb hl (by simp; omega)).2 e he
      exact ⟨a', j1, by rw [j2]; simp; omega⟩
theorem args_r : ∀ (k n : Nat) (a : List Loc) (l : List Int), k < n → okB l → l.length ≤ 4611686018427387904 → a.length + k ≤ 10000 →
    (match argsP k a l with
      | .ok a' r => whileF portolanref19_reader_ins.b2 n (a, l, 0, (k : Int)) = some (.brk (a', r, 0, 0)) ∧ okB r ∧ r.length ≤ l.length ∧ a'.length = a.length + k
      | .bad e => e ≠ 0 ∧ ∃ a' b, whileF portolanref19_reader_ins.b2 n (a, l, 0, (k : Int)) = some (.brk (a', b, e, 0)) ∧ okB b ∧ b.length ≤ l.length ∧ a'.length = a.length + k) ∧
    ∀ e, e ≠ 0 → ∃ a', whileF portolanref19_reader_ins.b2 n (a, l, e, (k : Int)) = some (.brk (a', l, e, 0)) ∧ a'.length = a.length + k
  | k, 0, a, l, h, hb, hl, ha => by omega
  | 0, n+1, a, l, h, hb, hl, ha => ⟨⟨rfl, hb, Nat.le_refl _, rfl⟩, fun e _ => ⟨a, rfl, rfl⟩⟩
  | k+1, n+1, a, l, h, hb, hl, ha => by
    have hs := loc_r l hb hl
    have e0 : decide ((0 : Int) < ((k+1 : Nat) : Int)) = true := decide_eq_true (by omega)
    have e1 : w64 (((k+1 : Nat) : Int) - 1) = (k : Int) := by rw [w64_id (by omega) (by omega)]; omega
    constructor
    · have h1 := hs.1
      unfold argsP
      simp only [whileF, portolanref19_reader_ins.b2, e0, e1, ↓reduceIte]
      cases hp : locP l with
      | ok x r =>
        rw [hp] at h1
        simp only [PostR] at h1 ⊢
        rw [h1.1, Option.bind_some, appL_ok (by simp; omega), Option.bind_some]
        have ih := (args_r k n (a ++ [x]) r (by omega) h1.2.1 (by omega) (by simp; omega)).1
        cases hq : argsP k (a ++ [x]) r with
        | ok a' r' => rw [hq] at ih; simp only [] at ih ⊢; refine ⟨ih.1, ih.2.1, by omega, by rw [ih.2.2.2]; simp; omega⟩
        | bad e =>
          rw [hq] at ih
          obtain ⟨he, a', b, i1, i2, i3, i4⟩ := ih
          exact ⟨he, a', b, i1, i2, by omega, by rw [i4]; simp; omega⟩
      | bad e =>
        rw [hp] at h1
        obtain ⟨he, b, v, i1, i2, i3, i4⟩ := h1
        rw [i1, Option.bind_some, appL_ok (by simp; omega), Option.bind_some]
        obtain ⟨a', j1, j2⟩ := (args_r k n (a ++ [v]) b (by omega) i2 (by omega) (by simp; omega)).2 e he
        exact ⟨he, a', b, j1, i2, i3, by rw [j2]; simp; omega⟩
    · intro e he
      obtain ⟨v, i1, i2⟩ := hs.2 e he
      simp only [whileF, portolanref19_reader_ins.b2, e0, e1, ↓reduceIte]
      rw [i1, Option.bind_some, appL_ok (by simp; omega), Option.bind_some]
      obtain ⟨a', j1, j2⟩ := (args_r k n (a ++ [v]) l (by omega) hb hl (by simp; omega)).2 e he
      exact ⟨a', j1, by rw [j2]; simp; omega⟩
/-- one letter's step: what the state is behind it -/
def PostS {X : Type} (o : Option (LR StI X)) (n m : Nat) : Rs Mins → Prop
  | .ok x r => o = some (.next (stI x r 0)) ∧ okB r ∧ r.length ≤ n ∧ x.Args.length ≤ m
  | .bad e => e ≠ 0 ∧ ∃ x b, o = some (.next (stI x b e)) ∧ okB b ∧ b.length ≤ n ∧ x.Args.length ≤ m
theorem field_t {ls : List Int} {i : Nat} {c : Int} (hi : ls[i]? = some c) (hc : c ∈ letters) (x : Mins) (l : List Int) (hb : okB l) (hl : l.length ≤ 4611686018427387904) (ha : x.Args.length ≤ 1000) :
    PostS (text_reader_ins.b1 ls i (stI x l 0)) l.length (x.Args.length + 4) (fieldP c x l) ∧ ∀ e, e ≠ 0 → ∃ x', text_reader_ins.b1 ls i (stI x l e) = some (.next (stI x' l e)) ∧ x'.Args.length ≤ x.Args.length + 4 := by
  have hw := within_sim 0 9223372036854775807 (by omega) l hb hl
  have hs := signed_sim l hb hl
  have hlc := loc_t l hb hl
  have hg : big = 9223372036854775807 := rfl
  rw [← hg] at hw
  have key : ∀ {α : Type} {Z : α → Prop} {o : Option (text_reader × α)} {p : Rs α} {f : α → Mins}, PostT o l.length Z p → (∀ v, (f v).Args.length ≤ x.Args.length + 4) → PostS (X := text_reader × Mins) (o.bind fun x1 => some (.next (stI (f x1.2) x1.1.b x1.1.err))) l.length (x.Args.length + 4) (mapR f p) := by
    intro α Z o p f hp hf
    cases p with
    | ok v r =>
      simp only [PostT] at hp
      simp only [mapR, PostS, hp.1, Option.bind_some, true_and]
      exact ⟨hp.2.1, hp.2.2, hf v⟩
    | bad e =>
      obtain ⟨he, b, v, h1, h2, h3, h4⟩ := hp
      simp only [mapR, PostS, h1, Option.bind_some]
      exact ⟨he, _, _, rfl, h2, h3, hf v⟩
  have key2 : ∀ {α : Type} {Z : α → Prop} {o : Option (text_reader × α)} {f : α → Mins} {e : Int}, (∃ v, o = some (⟨l, e⟩, v) ∧ Z v) → (∀ v, (f v).Args.length ≤ x.Args.length + 4) → ∃ x', (o.bind fun x1 => some (.next (stI (f x1.2) x1.1.b x1.1.err)) : Option (LR StI (text_reader × Mins))) = some (.next (stI x' l e)) ∧ x'.Args.length ≤ x.Args.length + 4 := by
    rintro α Z o f e ⟨v, h1, h2⟩ hf
    exact ⟨f v, by rw [h1]; rfl, hf v⟩
  simp only [stI, text_reader_ins.b1, ixL_of hi, Option.bind_some]
  simp only [letters, List.mem_cons, List.not_mem_nil, or_false] at hc
  rcases hc with rfl | rfl | rfl | rfl | rfl | rfl | rfl | rfl <;> simp only [Int.reduceBEq, Bool.false_eq_true, ↓reduceIte, beq_self_eq_true, fieldP, Int.reduceEq]
  · exact ⟨key (f := fun v => { x with D := v }) hlc.1 (fun v => by simp), fun e he => key2 (f := fun v => { x with D := v }) (hlc.2 e he) (fun v => by simp)⟩
  · exact ⟨key (f := fun v => { x with A := v }) hlc.1 (fun v => by simp), fun e he => key2 (f := fun v => { x with A := v }) (hlc.2 e he) (fun v => by simp)⟩
  · exact ⟨key (f := fun v => { x with B := v }) hlc.1 (fun v => by simp), fun e he => key2 (f := fun v => { x with B := v }) (hlc.2 e he) (fun v => by simp)⟩
  · exact ⟨key (f := fun v => { x with C := v }) hlc.1 (fun v => by simp), fun e he => key2 (f := fun v => { x with C := v }) (hlc.2 e he) (fun v => by simp)⟩
  · exact ⟨key (f := fun v => { x with N := v }) hw.1 (fun v => by simp), fun e he => key2 (f := fun v => { x with N := v }) (hw.2 e he) (fun v => by simp)⟩
  · exact ⟨key (f := fun v => { x with M := v }) hw.1 (fun v => by simp), fun e he => key2 (f := fun v => { x with M := v }) (hw.2 e he) (fun v => by simp)⟩
  · exact ⟨key (f := fun v => { x with N := v }) hs.1 (fun v => by simp), fun e he => key2 (f := fun v => { x with N := v }) (hs.2 e he) (fun v => by simp)⟩
  · have hw4 := within_sim 0 4 (by omega) l hb hl
    constructor
    · have h1 := hw4.1
      cases hp : numP false 0 4 l with
      | ok n r =>
        have hn := numP_ok hb hp
        rw [hp] at h1
        simp only [PostT] at h1
        rw [h1.1, Option.bind_some]
        obtain ⟨k, rfl⟩ : ∃ k : Nat, n = (k : Int) := ⟨n.toNat, by omega⟩
        have hA := (args_t k 0 x.Args r h1.2.1 (by omega) (by omega)).1
        simp only [bindR, Int.toNat_natCast]
        unfold forN
        rw [if_pos (by omega), Int.toNat_natCast]
        cases hq : argsP k x.Args r with
        | ok a' r' =>
          rw [hq] at hA
          rw [aft_next hA.1]
          refine ⟨rfl, hA.2.1, by omega, ?_⟩
          simp only []; omega
        | bad e =>
          rw [hq] at hA
          obtain ⟨he, a', b, i1, i2, i3, i4⟩ := hA
          rw [aft_next i1]
          exact ⟨he, { x with Args := a' }, b, rfl, i2, by omega, by simp only []; omega⟩
      | bad e =>
        rw [hp] at h1
        obtain ⟨he, b, v, i1, i2, i3, rfl⟩ := h1
        simp only [] at i1
        rw [i1, Option.bind_some, aft_next (forN_zero _ (by simp))]
        exact ⟨he, x, b, rfl, i2, i3, by omega⟩
    · intro e he
      obtain ⟨v, i1, rfl⟩ := hw4.2 e he
      simp only [] at i1
      rw [i1, Option.bind_some, aft_next (forN_zero _ (by simp))]
      exact ⟨x, rfl, by omega⟩
theorem ixS_sb {s : ByteArray} {i : Nat} {c : Int} (h : (sbytes s)[i]? = some c) : ixS s (i : Int) = some c := by
  unfold ixS sbytes at *
  rw [if_pos (by omega), Int.toNat_natCast]
  simp only [List.getElem?_map, Option.map_eq_some_iff] at h ⊢
  obtain ⟨b, h1, h2⟩ := h
  refine ⟨b, ?_, h2⟩
  obtain ⟨hlt, h3⟩ := List.getElem?_eq_some_iff.1 h1
  have hz : s.data.toList.length = s.size := by cases s; rfl
  have : i < s.size := by omega
  rw [getElem?_pos s i this, ← h3]
  rfl
theorem sb_len (s : ByteArray) : (sbytes s).length = s.size := by
  unfold sbytes; rw [List.length_map]; cases s; rfl
theorem field_r {op : ByteArray × Bool} {i : Nat} {c : Int} (hi : (sbytes op.1)[i]? = some c) (hc : c ∈ letters) (x : Mins) (l : List Int) (hb : okB l) (hl : l.length ≤ 4611686018427387904) (ha : x.Args.length ≤ 1000) :
    PostS (portolanref19_reader_ins.b1 op i (stI x l 0)) l.length (x.Args.length + 4) (fieldP c x l) := by
  have hw := num_sim false 0 9223372036854775807 l hb hl
  have hs := num_sim true (-9223372036854775808) 9223372036854775807 l hb hl
  have hlc := loc_r l hb hl
  have hg : big = 9223372036854775807 := rfl
  have hg2 : -big-1 = -9223372036854775808 := rfl
  have key : ∀ {α : Type} {Z : α → Prop} {o : Option (portolanref19_reader × α)} {p : Rs α} {f : α → Mins}, PostR o l.length Z p → (∀ v, (f v).Args.length ≤ x.Args.length + 4) → PostS (X := portolanref19_reader × Mins) (o.bind fun x1 => some (.next (stI (f x1.2) x1.1.b x1.1.err))) l.length (x.Args.length + 4) (mapR f p) := by
    intro α Z o p f hp hf
    cases p with
    | ok v r =>
      simp only [PostR] at hp
      simp only [mapR, PostS, hp.1, Option.bind_some, true_and]
      exact ⟨hp.2.1, hp.2.2, hf v⟩
    | bad e =>
      obtain ⟨he, b, v, h1, h2, h3, h4⟩ := hp
      simp only [mapR, PostS, h1, Option.bind_some]
      exact ⟨he, _, _, rfl, h2, h3, hf v⟩
  simp only [stI, portolanref19_reader_ins.b1, ixS_sb hi, Option.bind_some, beq_self_eq_true, ↓reduceIte]
  simp only [letters, List.mem_cons, List.not_mem_nil, or_false] at hc
  rcases hc with rfl | rfl | rfl | rfl | rfl | rfl | rfl | rfl <;> simp only [Int.reduceBEq, Bool.false_eq_true, ↓reduceIte, beq_self_eq_true, fieldP, Int.reduceEq, hg, hg2]
  · exact key (f := fun v => { x with D := v }) hlc.1 (fun v => by simp)
  · exact key (f := fun v => { x with A := v }) hlc.1 (fun v => by simp)
  · exact key (f := fun v => { x with B := v }) hlc.1 (fun v => by simp)
  · exact key (f := fun v => { x with C := v }) hlc.1 (fun v => by simp)
  · exact key (f := fun v => { x with N := v }) hw.1 (fun v => by simp)
  · exact key (f := fun v => { x with M := v }) hw.1 (fun v => by simp)
  · exact key (f := fun v => { x with N := v }) hs.1 (fun v => by simp)
  · have h1 := (num_sim false 0 4 l hb hl).1
    cases hp : numP false 0 4 l with
    | ok n r =>
      have hn := numP_ok hb hp
      rw [hp] at h1
      simp only [PostR] at h1
      rw [h1.1, Option.bind_some]
      obtain ⟨k, rfl⟩ : ∃ k : Nat, n = (k : Int) := ⟨n.toNat, by omega⟩
      have hA := (args_r k 18446744073709551616 x.Args r (by omega) h1.2.1 (by omega) (by omega)).1
      simp only [bindR, Int.toNat_natCast]
      cases hq : argsP k x.Args r with
      | ok a' r' =>
        rw [hq] at hA
        rw [aft_brk hA.1]
        refine ⟨rfl, hA.2.1, by omega, ?_⟩
        simp only []; omega
      | bad e =>
        rw [hq] at hA
        obtain ⟨he, a', b, i1, i2, i3, i4⟩ := hA
        rw [aft_brk i1]
        exact ⟨he, { x with Args := a' }, b, rfl, i2, by omega, by simp only []; omega⟩
    | bad e =>
      rw [hp] at h1
      obtain ⟨he, b, v, i1, i2, i3, rfl⟩ := h1
      simp only [] at i1
      rw [i1, Option.bind_some]
      obtain ⟨a', j1, j2⟩ := (args_r 0 18446744073709551616 x.Args b (by omega) i2 (by omega) (by omega)).2 e he
      simp only [Int.ofNat_zero, Int.natCast_zero] at j1
      rw [aft_brk j1]
      exact ⟨he, { x with Args := a' }, b, rfl, i2, i3, by simp only []; omega⟩
end Go.Pf
end
section
/- Texts out of bytes: the whole of it, the same by the program and by the document. -/
namespace Go.Pf
open Go.Pp

def setOp (op : Int) (x : Mins) : Mins := { x with Op := op }
theorem fieldP_op {c op : Int} {x : Mins} {l : List Int} : fieldP c (setOp op x) l = mapR (setOp op) (fieldP c x l) := by
  unfold fieldP setOp
  (repeat' split) <;> (try (cases numP false 0 big l <;> rfl)) <;> (try (cases numP true (-big-1) big l <;> rfl)) <;> (try (cases locP l <;> rfl))
  cases numP false 0 4 l with
  | ok n r => simp only [bindR]; cases argsP n.toNat x.Args r <;> rfl
  | bad e => rfl
theorem lettersP_op {op : Int} : ∀ (cs : List Int) (x : Mins) (l : List Int), lettersP cs (setOp op x) l = mapR (setOp op) (lettersP cs x l)
  | [], x, l => rfl
  | c :: cs, x, l => by
    simp only [lettersP, fieldP_op]
    cases fieldP c x l with
    | ok v r => simp only [mapR, bindR]; exact lettersP_op cs v r
    | bad e => rfl
theorem letters_t (ls : List Int) (hls : ∀ c ∈ ls, c ∈ letters) : ∀ (k i : Nat) (x : Mins) (l : List Int), i + k = ls.length → okB l → l.length ≤ 4611686018427387904 → x.Args.length + 4 * k ≤ 1000 →
    PostS (forF (text_reader_ins.b1 ls) k i (stI x l 0)) l.length (x.Args.length + 4 * k) (lettersP (ls.drop i) x l) ∧
    ∀ e, e ≠ 0 → ∃ x', forF (text_reader_ins.b1 ls) k i (stI x l e) = some (.next (stI x' l e)) ∧ x'.Args.length ≤ x.Args.length + 4 * k
  | 0, i, x, l, hik, hb, hl, ha => by
    rw [List.drop_eq_nil_of_le (by omega)]
    exact ⟨⟨rfl, hb, Nat.le_refl _, by omega⟩, fun e _ => ⟨x, rfl, by omega⟩⟩
  | k+1, i, x, l, hik, hb, hl, ha => by
    have hi : i < ls.length := by omega
    rw [List.drop_eq_getElem_cons hi]
    have hf := field_t (List.getElem?_eq_getElem hi) (hls _ (List.getElem_mem hi)) x l hb hl (by omega)
    constructor
    · have h1 := hf.1
      simp only [lettersP, forF]
      cases hp : fieldP ls[i] x l with
      | ok x' r =>
        rw [hp] at h1
        obtain ⟨i1, i2, i3, i4⟩ := h1
        rw [i1]
        simp only [bindR]
        have ih := (letters_t ls hls k (i+1) x' r (by omega) i2 (by omega) (by omega)).1
        cases hq : lettersP (ls.drop (i+1)) x' r with
        | ok y r' => rw [hq] at ih; exact ⟨ih.1, ih.2.1, by have := ih.2.2.1; omega, by have := ih.2.2.2; omega⟩
        | bad e =>
          rw [hq] at ih
          obtain ⟨he, y, b, j1, j2, j3, j4⟩ := ih
          exact ⟨he, y, b, j1, j2, by omega, by omega⟩
      | bad e =>
        rw [hp] at h1
        obtain ⟨he, x', b, i1, i2, i3, i4⟩ := h1
        rw [i1]
        obtain ⟨y, j1, j2⟩ := (letters_t ls hls k (i+1) x' b (by omega) i2 (by omega) (by omega)).2 e he
        exact ⟨he, y, b, j1, i2, i3, by omega⟩
    · intro e he
      obtain ⟨x', i1, i2⟩ := hf.2 e he
      simp only [forF, i1]
      obtain ⟨y, j1, j2⟩ := (letters_t ls hls k (i+1) x' l (by omega) hb hl (by omega)).2 e he
      exact ⟨y, j1, by omega⟩
def PostS' {X : Type} (o : Option (LR StI X)) (n m : Nat) : Rs Mins → Prop
  | .ok x r => o = some (.next (stI x r 0)) ∧ okB r ∧ r.length ≤ n ∧ x.Args.length ≤ m
  | .bad e => e ≠ 0 ∧ ∃ x b, (o = some (.next (stI x b e)) ∨ o = some (.brk (stI x b e))) ∧ okB b ∧ b.length ≤ n ∧ x.Args.length ≤ m
theorem letters_r (op : ByteArray × Bool) (hls : ∀ c ∈ sbytes op.1, c ∈ letters) : ∀ (k i : Nat) (x : Mins) (l : List Int), i + k = (sbytes op.1).length → okB l → l.length ≤ 4611686018427387904 → x.Args.length + 4 * k ≤ 1000 →
    PostS' (forF (portolanref19_reader_ins.b1 op) k i (stI x l 0)) l.length (x.Args.length + 4 * k) (lettersP ((sbytes op.1).drop i) x l)
  | 0, i, x, l, hik, hb, hl, ha => by
    rw [List.drop_eq_nil_of_le (by omega)]
    exact ⟨rfl, hb, Nat.le_refl _, by omega⟩
  | k+1, i, x, l, hik, hb, hl, ha => by
    have hi : i < (sbytes op.1).length := by omega
    rw [List.drop_eq_getElem_cons hi]
    have h1 := field_r (List.getElem?_eq_getElem hi) (hls _ (List.getElem_mem hi)) x l hb hl (by omega)
    simp only [lettersP, forF]
    cases hp : fieldP (sbytes op.1)[i] x l with
    | ok x' r =>
      rw [hp] at h1
      obtain ⟨i1, i2, i3, i4⟩ := h1
      rw [i1]
      simp only [bindR]
      have ih := letters_r op hls k (i+1) x' r (by omega) i2 (by omega) (by omega)
      cases hq : lettersP ((sbytes op.1).drop (i+1)) x' r with
      | ok y r' => rw [hq] at ih; exact ⟨ih.1, ih.2.1, by have := ih.2.2.1; omega, by have := ih.2.2.2; omega⟩
      | bad e =>
        rw [hq] at ih
        obtain ⟨he, y, b, j1, j2, j3, j4⟩ := ih
        exact ⟨he, y, b, j1, j2, by omega, by omega⟩
    | bad e =>
      rw [hp] at h1
      obtain ⟨he, x', b, i1, i2, i3, i4⟩ := h1
      rw [i1]
      cases k with
      | zero => exact ⟨he, x', b, .inl rfl, i2, i3, by omega⟩
      | succ k =>
        refine ⟨he, x', b, .inr ?_, i2, i3, by omega⟩
        have e3 : (e == 0) = false := by simp [he]
        simp only [forF, portolanref19_reader_ins.b1, stI, e3, Bool.false_eq_true, ↓reduceIte]
theorem op_small : ∀ n : Fin 26, (LS (n.val : Int)).length ≤ 3 ∧ ∀ c ∈ LS (n.val : Int), c ∈ letters := by decide +kernel
theorem LS_ok (op : Int) : (LS op).length ≤ 3 ∧ ∀ c ∈ LS op, c ∈ letters := by
  by_cases h : 0 ≤ op ∧ op < 26
  · obtain ⟨n, rfl⟩ := fin_of h; exact op_small n
  · have : LS op = [] := by unfold LS; rw [PS_out h]; rfl
    simp [this]
theorem PS_size (op : Int) : ByteArray.size (PS op).1 ≤ 3 := by
  have := (LS_ok op).1; unfold LS at this; rw [sb_len] at this; exact this
theorem setOp_zero (op : Int) (x : Mins) : setOp op x = ⟨op, x.D, x.A, x.B, x.C, x.N, x.M, x.Args⟩ := rfl
theorem ins_t : SimT text_reader_ins insP (fun x => x.Args.length ≤ 100) := by
  intro l hb hl
  have hw := within_sim 0 9223372036854775807 (by omega) l hb hl
  have hg : big = 9223372036854775807 := rfl
  rw [← hg] at hw
  simp only [] at hw
  have hj : ∀ (x1 : text_reader × Int) (x3 : Int), okB x1.1.b → x1.1.b.length ≤ l.length →
      (x3 = 0 → PostT (text_reader_ins.j1 x1 (PS x1.2) x3) l.length (fun x => x.Args.length ≤ 100) (lettersP (LS x1.2) (zeroI x1.2) x1.1.b)) ∧
      (x3 ≠ 0 → ∃ x, text_reader_ins.j1 x1 (PS x1.2) x3 = some (⟨x1.1.b, x3⟩, x) ∧ x.Args.length ≤ 100) := by
    intro x1 x3 hb1 hl1
    have hs := PS_size x1.2
    have hls := LS_ok x1.2
    unfold text_reader_ins.j1
    have hc : chkB (decide (ByteArray.size (PS x1.2).1 ≤ 140737488355328)) (sbytes (PS x1.2).1) = some (LS x1.2) := by
      unfold chkB; rw [if_pos (decide_eq_true (by omega))]; rfl
    rw [hc, Option.bind_some]
    unfold forN
    rw [if_pos (by omega), Int.toNat_natCast]
    have hL := letters_t (LS x1.2) hls.2 (LS x1.2).length 0 (zeroI 0) x1.1.b (by omega) hb1 (by omega) (by simp [zeroI]; omega)
    rw [List.drop_zero] at hL
    have hz : (zeroI 0).Args.length = 0 := rfl
    constructor
    · rintro rfl
      have h1 := hL.1
      rw [show zeroI x1.2 = setOp x1.2 (zeroI 0) from rfl, lettersP_op]
      cases hq : lettersP (LS x1.2) (zeroI 0) x1.1.b with
      | ok y r =>
        rw [hq] at h1
        obtain ⟨j1, j2, j3, j4⟩ := h1
        have j1' : forF (text_reader_ins.b1 (LS x1.2)) (LS x1.2).length 0 ([], 0, 0, 0, 0, 0, 0, 0, 0, 0, 0, x1.1.b, 0) = _ := j1
        rw [aft_next j1']
        exact ⟨rfl, j2, by omega⟩
      | bad e =>
        rw [hq] at h1
        obtain ⟨he, y, b, j1, j2, j3, j4⟩ := h1
        have j1' : forF (text_reader_ins.b1 (LS x1.2)) (LS x1.2).length 0 ([], 0, 0, 0, 0, 0, 0, 0, 0, 0, 0, x1.1.b, 0) = _ := j1
        rw [aft_next j1']
        exact ⟨he, b, setOp x1.2 y, rfl, j2, by omega, by simp only [setOp]; omega⟩
    · intro he
      obtain ⟨y, j1, j2⟩ := hL.2 x3 he
      have j1' : forF (text_reader_ins.b1 (LS x1.2)) (LS x1.2).length 0 ([], 0, 0, 0, 0, 0, 0, 0, 0, 0, 0, x1.1.b, x3) = _ := j1
      rw [aft_next j1']
      exact ⟨setOp x1.2 y, rfl, by simp only [setOp]; omega⟩
  constructor
  · have h1 := hw.1
    unfold insP text_reader_ins
    rw [← hg]
    cases hp : numP false 0 big l with
    | ok n r =>
      rw [hp] at h1
      obtain ⟨i1, i2, i3⟩ := h1
      rw [i1, Option.bind_some]
      simp only [parts_t, Option.bind_some, bindR]
      have := hj (⟨r, 0⟩, n)
      cases hk : (PS n).2
      · simp only [Bool.false_eq_true, ↓reduceIte, beq_self_eq_true]
        obtain ⟨x, j1, j2⟩ := (this 5 i2 i3).2 (by decide)
        exact ⟨by decide, _, x, j1, i2, i3, j2⟩
      · simp only [↓reduceIte]
        exact (this 0 i2 i3).1 rfl
    | bad e =>
      rw [hp] at h1
      obtain ⟨he, b, v, i1, i2, i3, rfl⟩ := h1
      rw [i1, Option.bind_some]
      have e3 : (e == 0) = false := by simp [he]
      simp only [parts_t, Option.bind_some, bindR, e3, Bool.false_eq_true, ↓reduceIte]
      obtain ⟨x, j1, j2⟩ := (hj (⟨b, e⟩, 0) e i2 i3).2 he
      refine ⟨he, b, x, ?_, i2, i3, j2⟩
      split <;> exact j1
  · intro e he
    obtain ⟨v, i1, rfl⟩ := hw.2 e he
    unfold text_reader_ins
    rw [← hg, i1, Option.bind_some]
    have e3 : (e == 0) = false := by simp [he]
    simp only [parts_t, Option.bind_some, e3, Bool.false_eq_true, ↓reduceIte]
    obtain ⟨x, j1, j2⟩ := (hj (⟨l, e⟩, 0) e hb (Nat.le_refl _)).2 he
    refine ⟨x, ?_, j2⟩
    split <;> exact j1
theorem ins_r {l : List Int} (hb : okB l) (hl : l.length ≤ 4611686018427387904) : PostR (portolanref19_reader_ins ⟨l, 0⟩) l.length (fun x => x.Args.length ≤ 100) (insP l) := by
  have hw := num_sim false 0 9223372036854775807 l hb hl
  have hg : big = 9223372036854775807 := rfl
  rw [← hg] at hw
  simp only [] at hw
  have hj : ∀ (x1 : portolanref19_reader × Int) (x3 : Int), okB x1.1.b → x1.1.b.length ≤ l.length →
      (x3 = 0 → PostR (portolanref19_reader_ins.j1 x1 (PS x1.2) x3) l.length (fun x => x.Args.length ≤ 100) (lettersP (LS x1.2) (zeroI x1.2) x1.1.b)) ∧
      (x3 ≠ 0 → ∃ x, portolanref19_reader_ins.j1 x1 (PS x1.2) x3 = some (⟨x1.1.b, x3⟩, x) ∧ x.Args.length ≤ 100) := by
    intro x1 x3 hb1 hl1
    have hs := PS_size x1.2
    have hls := LS_ok x1.2
    unfold portolanref19_reader_ins.j1
    rw [← sb_len]
    unfold forN
    rw [if_pos (by rw [sb_len]; omega), Int.toNat_natCast]
    have hz : (zeroI 0).Args.length = 0 := rfl
    constructor
    · rintro rfl
      have h1 := letters_r (PS x1.2) hls.2 (LS x1.2).length 0 (zeroI 0) x1.1.b (by unfold LS; omega) hb1 (by omega) (by simp [zeroI]; omega)
      rw [List.drop_zero] at h1
      rw [show zeroI x1.2 = setOp x1.2 (zeroI 0) from rfl, lettersP_op]
      change PostS' _ _ _ (lettersP (LS x1.2) _ _) at h1
      cases hq : lettersP (LS x1.2) (zeroI 0) x1.1.b with
      | ok y r =>
        rw [hq] at h1
        obtain ⟨j1, j2, j3, j4⟩ := h1
        have j1' : forF (portolanref19_reader_ins.b1 (PS x1.2)) (sbytes (PS x1.2).1).length 0 ([], 0, 0, 0, 0, 0, 0, 0, 0, 0, 0, x1.1.b, 0) = _ := j1
        rw [aft_next j1']
        exact ⟨rfl, j2, by omega⟩
      | bad e =>
        rw [hq] at h1
        obtain ⟨he, y, b, j1, j2, j3, j4⟩ := h1
        rcases j1 with j1 | j1
        · have j1' : forF (portolanref19_reader_ins.b1 (PS x1.2)) (sbytes (PS x1.2).1).length 0 ([], 0, 0, 0, 0, 0, 0, 0, 0, 0, 0, x1.1.b, 0) = _ := j1
          rw [aft_next j1']
          exact ⟨he, b, setOp x1.2 y, rfl, j2, by omega, by simp only [setOp]; omega⟩
        · have j1' : forF (portolanref19_reader_ins.b1 (PS x1.2)) (sbytes (PS x1.2).1).length 0 ([], 0, 0, 0, 0, 0, 0, 0, 0, 0, 0, x1.1.b, 0) = _ := j1
          rw [aft_brk j1']
          exact ⟨he, b, setOp x1.2 y, rfl, j2, by omega, by simp only [setOp]; omega⟩
    · intro he
      have e3 : (x3 == 0) = false := by simp [he]
      cases hk : (sbytes (PS x1.2).1).length with
      | zero =>
        rw [aft_next (show forF _ 0 0 _ = _ from rfl)]
        exact ⟨zeroI x1.2, rfl, by simp [zeroI]⟩
      | succ k =>
        rw [aft_brk (s := ([], 0, 0, 0, 0, 0, 0, 0, 0, 0, 0, x1.1.b, x3)) (by simp only [forF, portolanref19_reader_ins.b1, e3, Bool.false_eq_true, ↓reduceIte])]
        exact ⟨zeroI x1.2, rfl, by simp [zeroI]⟩
  have h1 := hw.1
  unfold insP portolanref19_reader_ins
  rw [← hg]
  cases hp : numP false 0 big l with
  | ok n r =>
    rw [hp] at h1
    obtain ⟨i1, i2, i3⟩ := h1
    rw [i1, Option.bind_some]
    simp only [parts_r, Option.bind_some, bindR, beq_self_eq_true, ↓reduceIte]
    have := hj (⟨r, 0⟩, n)
    cases hk : (PS n).2
    · simp only [Bool.false_eq_true, ↓reduceIte]
      obtain ⟨x, j1, j2⟩ := (this 5 i2 i3).2 (by decide)
      exact ⟨by decide, _, x, j1, i2, i3, j2⟩
    · simp only [↓reduceIte]
      exact (this 0 i2 i3).1 rfl
  | bad e =>
    rw [hp] at h1
    obtain ⟨he, b, v, i1, i2, i3, rfl⟩ := h1
    rw [i1, Option.bind_some]
    have e3 : (e == 0) = false := by simp [he]
    simp only [parts_r, Option.bind_some, bindR, e3, Bool.false_eq_true, ↓reduceIte]
    obtain ⟨x, j1, j2⟩ := (hj (⟨b, e⟩, 0) e i2 i3).2 he
    exact ⟨he, b, x, j1, i2, i3, j2⟩
end Go.Pf
end
section
/- Texts out of bytes: Decode, the same by the program and by the document. -/
namespace Go.Pf
open Go.Pp

def headP : Nat → List Int → List Int → Int → List Int → Rs (List Int × List Int × Int)
  | 0, st, sl, all, l => .ok (st, sl, all) l
  | k+1, st, sl, all, l => bindR (numP false 0 big l) fun s r => bindR (numP false 1 (8000 - all) r) fun n r' => headP k (st ++ [all]) (sl ++ [s]) (all + n) r'
def codeP : Nat → List Mins → List Int → Rs (List Mins)
  | 0, c, l => .ok c l
  | k+1, c, l => bindR (insP l) fun x r => codeP k (c ++ [x]) r
def textP (l : List Int) : Rs Text := bindR (numP false 1 8 l) fun n r => bindR (headP n.toNat [] [] 0 r) fun h r' => bindR (codeP h.2.2.toNat [] r') fun c r'' => .ok ⟨c, h.1, h.2.1⟩ r''
def DecS (l : List Int) : Text × Int := match textP l with
  | .ok t r => if r = [] ∧ RightS t = true then (t, 0) else (⟨[], [], []⟩, 5)
  | .bad e => (⟨[], [], []⟩, e)
theorem head_t : ∀ (k i : Nat) (st sl : List Int) (all : Int) (l : List Int), okB l → l.length ≤ 4611686018427387904 → 0 ≤ all → all ≤ 8000 → st.length + k ≤ 100 → sl.length + k ≤ 100 →
    (match headP k st sl all l with
      | .ok h r => forF text_Decode.b1 k i (st, sl, l, 0, all) = some (.next (h.1, h.2.1, r, 0, h.2.2)) ∧ okB r ∧ r.length ≤ l.length ∧ 0 ≤ h.2.2 ∧ h.2.2 ≤ 8000
      | .bad e => e ≠ 0 ∧ ∃ st' sl' b all', forF text_Decode.b1 k i (st, sl, l, 0, all) = some (.next (st', sl', b, e, all')) ∧ 0 ≤ all' ∧ all' ≤ 8000) ∧
    ∀ e, e ≠ 0 → ∃ st' sl', forF text_Decode.b1 k i (st, sl, l, e, all) = some (.next (st', sl', l, e, all))
  | 0, i, st, sl, all, l, hb, hl, h0, h1, hs, ht => ⟨⟨rfl, hb, Nat.le_refl _, h0, h1⟩, fun e _ => ⟨st, sl, rfl⟩⟩
  | k+1, i, st, sl, all, l, hb, hl, h0, h1, hs, ht => by
    have hg : big = 9223372036854775807 := rfl
    have hw := within_sim 0 9223372036854775807 (by omega) l hb hl
    have ew : w64 (8000 - all) = 8000 - all := w64_id (by omega) (by omega)
    rw [← hg] at hw
    simp only [] at hw
    constructor
    · have w1 := hw.1
      simp only [headP, forF, text_Decode.b1]
      rw [appL_ok (by simp; omega), Option.bind_some, ← hg, ew]
      cases hp : numP false 0 big l with
      | ok s r =>
        rw [hp] at w1
        obtain ⟨i1, i2, i3⟩ := w1
        rw [i1, Option.bind_some, appL_ok (by simp; omega), Option.bind_some]
        have w2 := (within_sim 1 (8000 - all) (by omega) r i2 (by omega)).1
        simp only [bindR] at w2 ⊢
        cases hq : numP false 1 (8000 - all) r with
        | ok n r' =>
          have hn := numP_ok i2 hq
          rw [hq] at w2
          obtain ⟨j1, j2, j3⟩ := w2
          rw [j1, Option.bind_some]
          simp only []
          rw [w64_id (n := all + n) (by omega) (by omega)]
          have ih := (head_t k (i+1) (st ++ [all]) (sl ++ [s]) (all + n) r' j2 (by omega) (by omega) (by omega) (by simp; omega) (by simp; omega)).1
          cases hz : headP k (st ++ [all]) (sl ++ [s]) (all + n) r' with
          | ok h r'' => rw [hz] at ih; exact ⟨ih.1, ih.2.1, by have := ih.2.2.1; omega, ih.2.2.2⟩
          | bad e => rw [hz] at ih; exact ih
        | bad e =>
          rw [hq] at w2
          obtain ⟨he, b, v, j1, j2, j3, rfl⟩ := w2
          rw [j1, Option.bind_some]
          simp only []
          rw [w64_id (n := all + 0) (by omega) (by omega), Int.add_zero]
          obtain ⟨st', sl', k1⟩ := (head_t k (i+1) (st ++ [all]) (sl ++ [s]) all b j2 (by omega) h0 h1 (by simp; omega) (by simp; omega)).2 e he
          exact ⟨he, st', sl', b, all, k1, h0, h1⟩
      | bad e =>
        rw [hp] at w1
        obtain ⟨he, b, v, i1, i2, i3, rfl⟩ := w1
        rw [i1, Option.bind_some, appL_ok (by simp; omega), Option.bind_some]
        obtain ⟨v, j1, rfl⟩ := (within_sim 1 (8000 - all) (by omega) b i2 (by omega)).2 e he
        simp only [] at j1
        rw [j1, Option.bind_some]
        simp only []
        rw [w64_id (n := all + 0) (by omega) (by omega), Int.add_zero]
        obtain ⟨st', sl', k1⟩ := (head_t k (i+1) (st ++ [all]) (sl ++ [0]) all b i2 (by omega) h0 h1 (by simp; omega) (by simp; omega)).2 e he
        exact ⟨he, st', sl', b, all, k1, h0, h1⟩
    · intro e he
      simp only [forF, text_Decode.b1]
      obtain ⟨v, i1, rfl⟩ := hw.2 e he
      rw [appL_ok (by simp; omega), Option.bind_some, ← hg, ew, i1, Option.bind_some, appL_ok (by simp; omega), Option.bind_some]
      obtain ⟨v, j1, rfl⟩ := (within_sim 1 (8000 - all) (by omega) l hb (by omega)).2 e he
      simp only [] at j1
      rw [j1, Option.bind_some]
      simp only []
      rw [w64_id (n := all + 0) (by omega) (by omega), Int.add_zero]
      exact (head_t k (i+1) (st ++ [all]) (sl ++ [0]) all l hb (by omega) h0 h1 (by simp; omega) (by simp; omega)).2 e he
theorem head_brk {n : Nat} {st sl b : List Int} {e all k : Int} (h : e ≠ 0) : whileF portolanref19_Decode.b1 (n+1) (st, sl, b, e, all, k) = some (.brk (st, sl, b, e, all, k)) := by
  have e3 : (e == 0) = false := by simp [h]
  simp only [whileF, portolanref19_Decode.b1, e3, portolanref19_Decode.j2, Bool.false_eq_true, ↓reduceIte]
  cases decide (0 < k) <;> rfl
theorem head_r : ∀ (k n : Nat) (st sl : List Int) (all : Int) (l : List Int), k + 1 < n → okB l → l.length ≤ 4611686018427387904 → 0 ≤ all → all ≤ 8000 → st.length + k ≤ 100 → sl.length + k ≤ 100 →
    (match headP k st sl all l with
      | .ok h r => ∃ z, whileF portolanref19_Decode.b1 n (st, sl, l, 0, all, (k : Int)) = some (.brk (h.1, h.2.1, r, 0, h.2.2, z)) ∧ okB r ∧ r.length ≤ l.length ∧ 0 ≤ h.2.2 ∧ h.2.2 ≤ 8000
      | .bad e => e ≠ 0 ∧ ∃ st' sl' b all' z, whileF portolanref19_Decode.b1 n (st, sl, l, 0, all, (k : Int)) = some (.brk (st', sl', b, e, all', z)) ∧ 0 ≤ all' ∧ all' ≤ 8000)
  | k, 0, st, sl, all, l, h, hb, hl, h0, h1, hs, ht => by omega
  | 0, n+1, st, sl, all, l, h, hb, hl, h0, h1, hs, ht => ⟨0, rfl, hb, Nat.le_refl _, h0, h1⟩
  | k+1, n+1, st, sl, all, l, h, hb, hl, h0, h1, hs, ht => by
    have hg : big = 9223372036854775807 := rfl
    have hw := num_sim false 0 9223372036854775807 l hb hl
    have ew : w64 (8000 - all) = 8000 - all := w64_id (by omega) (by omega)
    rw [← hg] at hw
    simp only [] at hw
    have e0 : decide ((0 : Int) < ((k+1 : Nat) : Int)) = true := decide_eq_true (by omega)
    have e1 : w64 (((k+1 : Nat) : Int) - 1) = (k : Int) := by rw [w64_id (by omega) (by omega)]; omega
    have w1 := hw.1
    simp only [headP, whileF, portolanref19_Decode.b1, e0, ↓reduceIte, beq_self_eq_true, portolanref19_Decode.j2, e1]
    rw [appL_ok (by simp; omega), Option.bind_some, ← hg, ew]
    cases hp : numP false 0 big l with
    | ok s r =>
      rw [hp] at w1
      obtain ⟨i1, i2, i3⟩ := w1
      rw [i1, Option.bind_some, appL_ok (by simp; omega), Option.bind_some]
      have w2 := (num_sim false 1 (8000 - all) r i2 (by omega)).1
      simp only [bindR] at w2 ⊢
      cases hq : numP false 1 (8000 - all) r with
      | ok m r' =>
        have hn := numP_ok i2 hq
        rw [hq] at w2
        obtain ⟨j1, j2, j3⟩ := w2
        rw [j1, Option.bind_some]
        simp only []
        rw [w64_id (n := all + m) (by omega) (by omega)]
        have ih := (head_r k n (st ++ [all]) (sl ++ [s]) (all + m) r' (by omega) j2 (by omega) (by omega) (by omega) (by simp; omega) (by simp; omega))
        cases hz : headP k (st ++ [all]) (sl ++ [s]) (all + m) r' with
        | ok h r'' =>
          rw [hz] at ih
          obtain ⟨z, k1, k2, k3, k4⟩ := ih
          exact ⟨z, k1, k2, by omega, k4⟩
        | bad e => rw [hz] at ih; exact ih
      | bad e =>
        rw [hq] at w2
        obtain ⟨he, b, v, j1, j2, j3, rfl⟩ := w2
        rw [j1, Option.bind_some]
        simp only []
        rw [w64_id (n := all + 0) (by omega) (by omega), Int.add_zero]
        obtain ⟨n, rfl⟩ : ∃ m, n = m + 1 := ⟨n - 1, by omega⟩
        exact ⟨he, _, _, _, _, _, head_brk he, h0, h1⟩
    | bad e =>
      rw [hp] at w1
      obtain ⟨he, b, v, i1, i2, i3, rfl⟩ := w1
      rw [i1, Option.bind_some, appL_ok (by simp; omega), Option.bind_some]
      obtain ⟨v, j1, rfl⟩ := (num_sim false 1 (8000 - all) b i2 (by omega)).2 e he
      simp only [] at j1
      rw [j1, Option.bind_some]
      simp only []
      rw [w64_id (n := all + 0) (by omega) (by omega), Int.add_zero]
      obtain ⟨n, rfl⟩ : ∃ m, n = m + 1 := ⟨n - 1, by omega⟩
      exact ⟨he, _, _, _, _, _, head_brk he, h0, h1⟩
theorem code_t : ∀ (k i : Nat) (c : List Mins) (l : List Int), okB l → l.length ≤ 4611686018427387904 → c.length + k ≤ 100000 →
    (match codeP k c l with
      | .ok c' r => forF text_Decode.b2 k i (c, l, 0) = some (.next (c', r, 0)) ∧ okB r ∧ r.length ≤ l.length ∧ c'.length = c.length + k
      | .bad e => e ≠ 0 ∧ ∃ c' b, (forF text_Decode.b2 k i (c, l, 0) = some (.next (c', b, e)) ∨ forF text_Decode.b2 k i (c, l, 0) = some (.brk (c', b, e))))
  | 0, i, c, l, hb, hl, hc => ⟨rfl, hb, Nat.le_refl _, rfl⟩
  | k+1, i, c, l, hb, hl, hc => by
    have w1 := (ins_t l hb hl).1
    simp only [codeP, forF, text_Decode.b2, beq_self_eq_true, ↓reduceIte]
    cases hp : insP l with
    | ok x r =>
      rw [hp] at w1
      obtain ⟨i1, i2, i3⟩ := w1
      rw [i1, Option.bind_some, appL_ok (by simp; omega), Option.bind_some]
      have ih := code_t k (i+1) (c ++ [x]) r i2 (by omega) (by simp; omega)
      simp only [bindR]
      cases hz : codeP k (c ++ [x]) r with
      | ok c' r' => rw [hz] at ih; exact ⟨ih.1, ih.2.1, by have := ih.2.2.1; omega, by rw [ih.2.2.2]; simp; omega⟩
      | bad e => rw [hz] at ih; exact ih
    | bad e =>
      rw [hp] at w1
      obtain ⟨he, b, v, i1, i2, i3, i4⟩ := w1
      rw [i1, Option.bind_some, appL_ok (by simp; omega), Option.bind_some]
      simp only [bindR]
      have e3 : (e == 0) = false := by simp [he]
      cases k with
      | zero => exact ⟨he, _, _, .inl rfl⟩
      | succ k => exact ⟨he, c ++ [v], b, .inr (by simp only [forF, text_Decode.b2, e3, Bool.false_eq_true, ↓reduceIte])⟩
theorem code_r : ∀ (k i : Nat) (c : List Mins) (l : List Int), okB l → l.length ≤ 4611686018427387904 → c.length + k ≤ 100000 →
    (match codeP k c l with
      | .ok c' r => forF portolanref19_Decode.b2 k i (c, l, 0) = some (.next (c', r, 0)) ∧ okB r ∧ r.length ≤ l.length ∧ c'.length = c.length + k
      | .bad e => e ≠ 0 ∧ ∃ c' b, (forF portolanref19_Decode.b2 k i (c, l, 0) = some (.next (c', b, e)) ∨ forF portolanref19_Decode.b2 k i (c, l, 0) = some (.brk (c', b, e))))
  | 0, i, c, l, hb, hl, hc => ⟨rfl, hb, Nat.le_refl _, rfl⟩
  | k+1, i, c, l, hb, hl, hc => by
    have w1 := ins_r hb hl
    simp only [codeP, forF, portolanref19_Decode.b2, beq_self_eq_true, ↓reduceIte]
    cases hp : insP l with
    | ok x r =>
      rw [hp] at w1
      obtain ⟨i1, i2, i3⟩ := w1
      rw [i1, Option.bind_some, appL_ok (by simp; omega), Option.bind_some]
      have ih := code_r k (i+1) (c ++ [x]) r i2 (by omega) (by simp; omega)
      simp only [bindR]
      cases hz : codeP k (c ++ [x]) r with
      | ok c' r' => rw [hz] at ih; exact ⟨ih.1, ih.2.1, by have := ih.2.2.1; omega, by rw [ih.2.2.2]; simp; omega⟩
      | bad e => rw [hz] at ih; exact ih
    | bad e =>
      rw [hp] at w1
      obtain ⟨he, b, v, i1, i2, i3, i4⟩ := w1
      rw [i1, Option.bind_some, appL_ok (by simp; omega), Option.bind_some]
      simp only [bindR]
      have e3 : (e == 0) = false := by simp [he]
      cases k with
      | zero => exact ⟨he, _, _, .inl rfl⟩
      | succ k => exact ⟨he, c ++ [v], b, .inr (by simp only [forF, portolanref19_Decode.b2, e3, Bool.false_eq_true, ↓reduceIte])⟩
theorem k1bad_t {st sl b : List Int} {e all : Int} (he : e ≠ 0) (h1 : all ≤ 8000) : text_Decode.k1 st sl b e all = some (⟨[], [], []⟩, e) := by
  have e3 : (e == 0) = false := by simp [he]
  have e4 : (e != 0) = true := by simp [he]
  have : ∃ o, forN all text_Decode.b2 ([], b, e) = some o ∧ (o = .next ([], b, e) ∨ o = .brk ([], b, e)) := by
    unfold forN
    rw [if_pos (by omega)]
    cases hk : all.toNat with
    | zero => exact ⟨_, rfl, .inl rfl⟩
    | succ k => exact ⟨_, by simp only [forF, text_Decode.b2, e3, Bool.false_eq_true, ↓reduceIte], .inr rfl⟩
  obtain ⟨o, h, h2⟩ := this
  unfold text_Decode.k1
  rcases h2 with rfl | rfl
  · rw [aft_next h]; simp [text_Decode.k2, e3, text_Decode.j1, e4]
  · rw [aft_brk h]; simp [text_Decode.k2, e3, text_Decode.j1, e4]
theorem k1bad_r {st sl b : List Int} {e all : Int} (he : e ≠ 0) (h1 : all ≤ 8000) : portolanref19_Decode.k1 st sl b e all = some (⟨[], [], []⟩, e) := by
  have e3 : (e == 0) = false := by simp [he]
  have e4 : (e != 0) = true := by simp [he]
  have : ∃ o, forN all portolanref19_Decode.b2 ([], b, e) = some o ∧ (o = .next ([], b, e) ∨ o = .brk ([], b, e)) := by
    unfold forN
    rw [if_pos (by omega)]
    cases hk : all.toNat with
    | zero => exact ⟨_, rfl, .inl rfl⟩
    | succ k => exact ⟨_, by simp only [forF, portolanref19_Decode.b2, e3, Bool.false_eq_true, ↓reduceIte], .inr rfl⟩
  obtain ⟨o, h, h2⟩ := this
  unfold portolanref19_Decode.k1
  rcases h2 with rfl | rfl
  · rw [aft_next h]; simp [portolanref19_Decode.k2, e3, portolanref19_Decode.j1, e4]
  · rw [aft_brk h]; simp [portolanref19_Decode.k2, e3, portolanref19_Decode.j1, e4]
theorem Decode_t {l : List Int} (hb : okB l) (hl : l.length ≤ 4611686018427387904) : text_Decode l = some (DecS l) := by
  have w1 := (within_sim 1 8 (by omega) l hb hl).1
  simp only [] at w1
  unfold text_Decode DecS textP
  cases hp : numP false 1 8 l with
  | ok n r =>
    have hn := numP_ok hb hp
    rw [hp] at w1
    obtain ⟨i1, i2, i3⟩ := w1
    obtain ⟨k, rfl⟩ : ∃ k : Nat, n = (k : Int) := ⟨n.toNat, by omega⟩
    rw [i1, Option.bind_some]
    simp only [bindR, Int.toNat_natCast]
    unfold forN
    rw [if_pos (by omega), Int.toNat_natCast]
    have ih := (head_t k 0 [] [] 0 r i2 (by omega) (by omega) (by omega) (by simp; omega) (by simp; omega)).1
    cases hh : headP k [] [] 0 r with
    | ok h r' =>
      rw [hh] at ih
      obtain ⟨j1, j2, j3, j4, j5⟩ := ih
      rw [aft_next j1]
      simp only []
      unfold text_Decode.k1 forN
      rw [if_pos (by omega)]
      have ic := code_t h.2.2.toNat 0 [] r' j2 (by omega) (by simp; omega)
      cases hc : codeP h.2.2.toNat [] r' with
      | ok c r'' =>
        rw [hc] at ic
        obtain ⟨c1, c2, c3, c4⟩ := ic
        rw [aft_next c1]
        simp only [text_Decode.k2, beq_self_eq_true, ↓reduceIte]
        rw [right_t _ (by simp only [c4]; simp; omega)]
        by_cases hr : r'' = []
        · subst hr
          simp only [List.length_nil, Int.ofNat_zero, Int.natCast_zero, Int.lt_irrefl, decide_false, Bool.false_eq_true, ↓reduceIte, Option.bind_some, true_and]
          cases RightS ⟨c, h.1, h.2.1⟩ <;> simp [text_Decode.j1]
        · have : 0 < r''.length := by cases r'' with | nil => exact absurd rfl hr | cons a b => simp
          have : (0 : Int) < r''.length := by omega
          simp [hr, text_Decode.j1]
      | bad e =>
        rw [hc] at ic
        obtain ⟨he, c', b, c1⟩ := ic
        have e3 : (e == 0) = false := by simp [he]
        have e4 : (e != 0) = true := by simp [he]
        rcases c1 with c1 | c1
        · rw [aft_next c1]; simp [text_Decode.k2, e3, text_Decode.j1, e4]
        · rw [aft_brk c1]; simp [text_Decode.k2, e3, text_Decode.j1, e4]
    | bad e =>
      rw [hh] at ih
      obtain ⟨he, st', sl', b, all', j1, j2, j3⟩ := ih
      rw [aft_next j1]
      exact k1bad_t he j3
  | bad e =>
    rw [hp] at w1
    obtain ⟨he, b, v, i1, i2, i3, rfl⟩ := w1
    rw [i1, Option.bind_some, aft_next (forN_zero _ (by simp))]
    exact k1bad_t he (by simp)
theorem Decode_r {l : List Int} (hb : okB l) (hl : l.length ≤ 4611686018427387904) : portolanref19_Decode l = some (DecS l) := by
  have w1 := (num_sim false 1 8 l hb hl).1
  simp only [] at w1
  unfold portolanref19_Decode DecS textP
  cases hp : numP false 1 8 l with
  | ok n r =>
    have hn := numP_ok hb hp
    rw [hp] at w1
    obtain ⟨i1, i2, i3⟩ := w1
    obtain ⟨k, rfl⟩ : ∃ k : Nat, n = (k : Int) := ⟨n.toNat, by omega⟩
    rw [i1, Option.bind_some]
    simp only [bindR, Int.toNat_natCast]
    have ih := (head_r k 18446744073709551616 [] [] 0 r (by omega) i2 (by omega) (by omega) (by omega) (by simp; omega) (by simp; omega))
    cases hh : headP k [] [] 0 r with
    | ok h r' =>
      rw [hh] at ih
      obtain ⟨z, j1, j2, j3, j4, j5⟩ := ih
      rw [aft_brk j1]
      simp only []
      unfold portolanref19_Decode.k1 forN
      rw [if_pos (by omega)]
      have ic := code_r h.2.2.toNat 0 [] r' j2 (by omega) (by simp; omega)
      cases hc : codeP h.2.2.toNat [] r' with
      | ok c r'' =>
        rw [hc] at ic
        obtain ⟨c1, c2, c3, c4⟩ := ic
        rw [aft_next c1]
        simp only [portolanref19_Decode.k2, beq_self_eq_true, ↓reduceIte]
        rw [right_r _ (by simp only [c4]; simp; omega)]
        by_cases hr : r'' = []
        · subst hr
          simp only [List.length_nil, Int.ofNat_zero, Int.natCast_zero, Int.lt_irrefl, decide_false, Bool.false_eq_true, ↓reduceIte, Option.bind_some, true_and]
          cases RightS ⟨c, h.1, h.2.1⟩ <;> simp [portolanref19_Decode.j1]
        · have : 0 < r''.length := by cases r'' with | nil => exact absurd rfl hr | cons a b => simp
          have : (0 : Int) < r''.length := by omega
          simp [hr, portolanref19_Decode.j1]
      | bad e =>
        rw [hc] at ic
        obtain ⟨he, c', b, c1⟩ := ic
        have e3 : (e == 0) = false := by simp [he]
        have e4 : (e != 0) = true := by simp [he]
        rcases c1 with c1 | c1
        · rw [aft_next c1]; simp [portolanref19_Decode.k2, e3, portolanref19_Decode.j1, e4]
        · rw [aft_brk c1]; simp [portolanref19_Decode.k2, e3, portolanref19_Decode.j1, e4]
    | bad e =>
      rw [hh] at ih
      obtain ⟨he, st', sl', b, all', z, j1, j2, j3⟩ := ih
      rw [aft_brk j1]
      exact k1bad_r he j3
  | bad e =>
    rw [hp] at w1
    obtain ⟨he, b, v, i1, i2, i3, rfl⟩ := w1
    rw [i1, Option.bind_some]
    simp only []
    rw [aft_brk (head_brk (n := 18446744073709551615) he)]
    exact k1bad_r he (by simp)
end Go.Pf
end
section
/- Any bytes are the document's text, or refused: the plain law. -/
namespace Go.Pf
open Go.Pp

theorem alive19 : portolanlaw19_alive = some true := by decide +kernel
theorem Same16 {a b : List Loc} (h : a.length ≤ 4611686018427387904) : portolanref16_Same a b = some (decide (a = b)) := by
  unfold portolanref16_Same
  by_cases hl : a.length = b.length
  · have : ((a.length : Int) != b.length) = false := by simp [hl]
    simp only [this, Bool.false_eq_true, ↓reduceIte]
    rw [aft_if (forN_same (m := b) (r := false) h hl (fun i x y hx hy => by
      simp only [portolanref16_Same.b1, ixL_of hx, ixL_of hy, Option.bind_some]
      cases x; cases y; simp only [Loc.mk.injEq, Bool.and_eq_true, decide_eq_true_eq, iteS]))]
    simp only [portolanref16_Same.k1, iteS]
    by_cases e : a = b <;> simp [e]
  · have : ((a.length : Int) != b.length) = true := by simp; omega
    simp only [this, ↓reduceIte]
    rw [decide_eq_false]; rintro rfl; exact hl rfl
theorem SameIns19 {x y : Mins} (h : x.Args.length ≤ 4611686018427387904) : portolanref19_SameIns x y = some (decide (x = y)) := by
  unfold portolanref19_SameIns
  rw [Same16 h]
  obtain ⟨o, d, a, b, c, n, m, r⟩ := x
  obtain ⟨o', d', a', b', c', n', m', r'⟩ := y
  obtain ⟨d1, d2⟩ := d; obtain ⟨a1, a2⟩ := a; obtain ⟨b1, b2⟩ := b; obtain ⟨c1, c2⟩ := c
  obtain ⟨d1', d2'⟩ := d'; obtain ⟨a1', a2'⟩ := a'; obtain ⟨b1', b2'⟩ := b'; obtain ⟨c1', c2'⟩ := c'
  simp only [Option.bind_some, Mins.mk.injEq, Loc.mk.injEq, beq_iff_eq, Bool.and_eq_true, decide_eq_true_eq]
  by_cases e1 : o = o'
  · by_cases e2 : d1 = d1' ∧ d2 = d2'
    · by_cases e3 : a1 = a1' ∧ a2 = a2'
      · by_cases e4 : b1 = b1' ∧ b2 = b2'
        · by_cases e5 : c1 = c1' ∧ c2 = c2'
          · by_cases e6 : n = n'
            · by_cases e7 : m = m'
              · simp [e1, e2, e3, e4, e5, e6, e7]
              · simp [e7]
            · simp [e6]
          · simp [e5]
        · simp [e4]
      · simp [e3]
    · simp [e2]
  · simp [e1]
def smallT (t : Text) : Prop := t.Code.length ≤ 4611686018427387904 ∧ t.Starts.length ≤ 4611686018427387904 ∧ t.Slots.length ≤ 4611686018427387904 ∧ ∀ x ∈ t.Code, x.Args.length ≤ 4611686018427387904
theorem Same19 {t u : Text} (h : smallT t) : portolanref19_Same t u = some (decide (t = u)) := by
  obtain ⟨h1, h2, h3, h4⟩ := h
  unfold portolanref19_Same
  by_cases hl : t.Code.length = u.Code.length
  · have : ((t.Code.length : Int) != u.Code.length) = false := by simp [hl]
    simp only [this, Bool.false_eq_true, ↓reduceIte, Ints01 h2, Ints01 h3, Option.bind_some, portolanref19_Same.j1]
    rw [aft_if (forN_same (m := u.Code) (r := false) h1 hl (fun i x y hx hy => by
      simp only [portolanref19_Same.b1, ixL_of hx, ixL_of hy, Option.bind_some, SameIns19 (h4 x (List.mem_of_getElem? hx)), decide_eq_true_eq, iteS]))]
    cases t; cases u
    rename_i a b c d e f
    simp only [Text.mk.injEq, portolanref19_Same.k1, iteS]
    by_cases e1 : b = e <;> by_cases e2 : c = f <;> by_cases e3 : a = d <;> simp [e1, e2, e3]
  · have : ((t.Code.length : Int) != u.Code.length) = true := by simp; omega
    simp only [this, ↓reduceIte, portolanref19_Same.j1]
    rw [decide_eq_false]; rintro rfl; exact hl rfl
theorem numP_len {sg : Bool} {lo hi : Int} {l r : List Int} {v : Int} (hb : okB l) (h : numP sg lo hi l = .ok v r) : okB r ∧ r.length ≤ l.length := by
  have e := (numP_ok hb h).2.2.2.1
  have := congrArg List.length e
  rw [List.length_append] at this
  exact ⟨okB_of_app (e ▸ hb), by omega⟩
/-- what reading an instruction leaves, and that it is small -/
theorem insP_small {l r : List Int} {x : Mins} (hb : okB l) (hl : l.length ≤ 4611686018427387904) (h : insP l = .ok x r) : okB r ∧ r.length ≤ l.length ∧ x.Args.length ≤ 12 := by
  unfold insP at h
  cases hp : numP false 0 big l with
  | bad e => rw [hp] at h; cases h
  | ok op r1 =>
    rw [hp] at h
    simp only [bindR] at h
    have h1 := numP_len hb hp
    split at h
    · have hls := LS_ok op
      have := (letters_t (LS op) hls.2 (LS op).length 0 (zeroI op) r1 (by omega) h1.1 (by omega) (by simp [zeroI]; omega)).1
      rw [List.drop_zero, h] at this
      obtain ⟨_, i2, i3, i4⟩ := this
      have hz : (zeroI op).Args.length = 0 := rfl
      exact ⟨i2, by omega, by omega⟩
    · cases h
theorem codeP_small : ∀ {k : Nat} {c c' : List Mins} {l r : List Int}, okB l → l.length ≤ 4611686018427387904 → (∀ x ∈ c, x.Args.length ≤ 12) → codeP k c l = .ok c' r → (∀ x ∈ c', x.Args.length ≤ 12) ∧ c'.length = c.length + k
  | 0, c, c', l, r, hb, hl, hc, h => by cases h; exact ⟨hc, rfl⟩
  | k+1, c, c', l, r, hb, hl, hc, h => by
    unfold codeP at h
    cases hp : insP l with
    | bad e => rw [hp] at h; cases h
    | ok x r1 =>
      rw [hp] at h
      have h1 := insP_small hb hl hp
      have := codeP_small (k := k) h1.1 (by omega) (by
        intro y hy
        rcases List.mem_append.1 hy with hy | hy
        · exact hc y hy
        · obtain rfl := List.mem_singleton.1 hy; exact h1.2.2) h
      exact ⟨this.1, by rw [this.2]; simp; omega⟩
theorem headP_small : ∀ {k : Nat} {st sl : List Int} {all : Int} {l r : List Int} {h : List Int × List Int × Int}, okB l → 0 ≤ all → all ≤ 8000 → headP k st sl all l = .ok h r → h.1.length = st.length + k ∧ h.2.1.length = sl.length + k ∧ 0 ≤ h.2.2 ∧ h.2.2 ≤ 8000 ∧ okB r ∧ r.length ≤ l.length
  | 0, st, sl, all, l, r, h, hb, h0, h1, e => by cases e; exact ⟨rfl, rfl, h0, h1, hb, Nat.le_refl _⟩
  | k+1, st, sl, all, l, r, h, hb, h0, h1, e => by
    unfold headP at e
    cases hp : numP false 0 big l with
    | bad e' => rw [hp] at e; cases e
    | ok s r1 =>
      rw [hp] at e
      simp only [bindR] at e
      have a1 := numP_len hb hp
      cases hq : numP false 1 (8000 - all) r1 with
      | bad e' => rw [hq] at e; cases e
      | ok n r2 =>
        rw [hq] at e
        simp only [] at e
        have a2 := numP_len a1.1 hq
        have a3 := numP_ok a1.1 hq
        have := headP_small (k := k) a2.1 (by omega) (by omega) e
        simp only [List.length_append, List.length_singleton] at this
        exact ⟨by omega, by omega, this.2.2.1, this.2.2.2.1, this.2.2.2.2.1, by omega⟩
theorem textP_small {l r : List Int} {t : Text} (hb : okB l) (hl : l.length ≤ 4611686018427387904) (h : textP l = .ok t r) : smallT t ∧ t.Code.length ≤ 8000 ∧ ∀ x ∈ t.Code, x.Args.length ≤ 12 := by
  unfold textP at h
  cases hp : numP false 1 8 l with
  | bad e' => rw [hp] at h; cases h
  | ok n r1 =>
    rw [hp] at h
    have a1 := numP_len hb hp
    have a3 := numP_ok hb hp
    simp only [bindR] at h
    cases hq : headP n.toNat [] [] 0 r1 with
    | bad e' => rw [hq] at h; cases h
    | ok hd r2 =>
      rw [hq] at h
      simp only [] at h
      have a2 := headP_small a1.1 (by omega) (by omega) hq
      cases hc : codeP hd.2.2.toNat [] r2 with
      | bad e' => rw [hc] at h; cases h
      | ok c r3 =>
        rw [hc] at h
        simp only [Rs.ok.injEq] at h
        obtain ⟨rfl, rfl⟩ := h
        have a4 := codeP_small a2.2.2.2.2.1 (by omega) (by simp) hc
        simp only [List.length_nil] at a2 a4
        exact ⟨⟨by simp only []; omega, by simp only []; omega, by simp only []; omega, fun x hx => by have := a4.1 x hx; omega⟩, by simp only []; omega, a4.1⟩
theorem DecS_small {l : List Int} (hb : okB l) (hl : l.length ≤ 4611686018427387904) : smallT (DecS l).1 := by
  have hz : smallT ⟨[], [], []⟩ := ⟨by simp, by simp, by simp, by simp⟩
  unfold DecS
  cases h : textP l with
  | bad e => exact hz
  | ok t r =>
    simp only []
    split
    · exact (textP_small hb hl h).1
    · exact hz
theorem TextDecodes_plain {a : List Int} (hb : okB a) : portolanlaw19_TextDecodes a = some true := by
  unfold portolanlaw19_TextDecodes
  rw [alive19, Option.bind_some]
  simp only [↓reduceIte]
  by_cases h : 5000 < (a.length : Int)
  · simp [h]
  · simp only [h, decide_false, Bool.false_eq_true, ↓reduceIte]
    rw [Decode_t hb (by omega), Option.bind_some, Decode_r hb (by omega), Option.bind_some, Same19 (DecS_small hb (by omega))]
    simp
end Go.Pf
end
section
/- Texts' bytes: the same by the program and by the document. -/
namespace Go.Pf
open Go.Pp

def codeS (x : Loc) : Int := if x.Kind = 1 then 2 * x.N + 1 else if x.Kind = 2 then 2 * x.N + 2 else 0
def encF (x : Mins) (c : Int) : List Int :=
  if c = 78 then putS x.N else if c = 77 then putS x.M else if c = 110 then sgnS x.N
  else if c = 76 then putS x.Args.length ++ x.Args.flatMap (fun l => putS (codeS l))
  else putS (codeS (locS x c))
def encI (x : Mins) : List Int := putS x.Op ++ (LS x.Op).flatMap (encF x)
def encH (t : Text) (i : Nat) : List Int := putS (slS t i) ++ putS (endS t i - stS t i)
def encT (t : Text) : List Int := putS t.Starts.length ++ (List.range t.Starts.length).flatMap (encH t) ++ t.Code.flatMap encI
def okMins (x : Mins) : Prop := okI x.Op ∧ okI x.N ∧ okI x.M
def okText (t : Text) : Prop := (∀ x ∈ t.Code, okMins x) ∧ (∀ a ∈ t.Starts, okI a) ∧ ∀ a ∈ t.Slots, okI a

theorem right_fn {t : Text} (h : RightS t = true) : headS t = true ∧ ∀ i, i < t.Starts.length → fnS t i = true := by
  simp only [RightS, Bool.and_eq_true, List.all_eq_true, List.mem_range] at h
  exact h
theorem right_len {t : Text} (h : RightS t = true) : 1 ≤ t.Starts.length ∧ t.Starts.length ≤ 8 ∧ t.Slots.length = t.Starts.length ∧ t.Code.length ≤ 8000 ∧ stS t 0 = 0 := by
  have := (right_fn h).1; simpa only [headS, decide_eq_true_eq] using this
theorem right_at {t : Text} (h : RightS t = true) {i : Nat} (hi : i < t.Starts.length) : 0 ≤ stS t i ∧ stS t i < endS t i ∧ endS t i ≤ t.Code.length ∧ 1 ≤ slS t i ∧ slS t i ≤ 160 ∧ ∀ x ∈ cutS' t i, mayS x (stS t i) (endS t i) (slS t i) t.Starts.length = true := by
  have h1 := (right_fn h).2 i hi
  have h0 := start_nonneg (right_fn h).1 (fun m hm => (right_fn h).2 m (by omega)) hi
  simp only [fnS, Bool.and_eq_true, decide_eq_true_eq, List.all_eq_true] at h1
  exact ⟨h0, h1.1.1.1, h1.1.1.2, h1.1.2.1, h1.1.2.2, h1.2.1⟩
theorem right_cover {t : Text} (h : RightS t = true) {k : Nat} (hk : k < t.Code.length) : ∃ i, i < t.Starts.length ∧ stS t i ≤ k ∧ k < endS t i := by
  have hl := right_len h
  have key : ∀ j, j ≤ t.Starts.length → (∃ i, i < t.Starts.length ∧ stS t i ≤ k ∧ k < endS t i) ∨ ((j < t.Starts.length → stS t j ≤ k) ∧ (j = t.Starts.length → t.Code.length ≤ k)) := by
    intro j
    induction j with
    | zero => intro _; exact .inr ⟨fun _ => by rw [hl.2.2.2.2]; omega, fun e => by omega⟩
    | succ j ih =>
      intro hj
      rcases ih (by omega) with h1 | ⟨h1, h2⟩
      · exact .inl h1
      · have h1 := h1 (by omega)
        by_cases hk2 : k < endS t j
        · exact .inl ⟨j, by omega, h1, hk2⟩
        · refine .inr ⟨fun hj2 => ?_, fun hj2 => ?_⟩
          · unfold endS at hk2; rw [if_pos hj2] at hk2; omega
          · unfold endS at hk2; rw [if_neg (by omega)] at hk2; omega
  rcases key t.Starts.length (Nat.le_refl _) with h1 | ⟨_, h2⟩
  · exact h1
  · have := h2 rfl; omega
theorem right_may {t : Text} (h : RightS t = true) {x : Mins} (hx : x ∈ t.Code) : ∃ lo hi slots, 0 ≤ lo ∧ hi ≤ 8000 ∧ slots ≤ 160 ∧ mayS x lo hi slots t.Starts.length = true := by
  obtain ⟨k, hk, rfl⟩ := List.mem_iff_getElem.1 hx
  obtain ⟨i, hi, h1, h2⟩ := right_cover h hk
  have ha := right_at h hi
  have hl := right_len h
  refine ⟨stS t i, endS t i, slS t i, ha.1, by omega, ha.2.2.2.2.1, ha.2.2.2.2.2 _ ?_⟩
  rw [cutS', List.mem_iff_getElem]
  refine ⟨k - (stS t i).toNat, by simp; omega, ?_⟩
  simp [show (stS t i).toNat + (k - (stS t i).toNat) = k by omega]
/-- what may be tells of the fields -/
theorem may_parts {x : Mins} {lo hi slots funcs : Int} (h : mayS x lo hi slots funcs = true) :
    (PS x.Op).2 = true ∧ fieldS x.Op x.D 68 slots = true ∧ fieldS x.Op x.A 65 slots = true ∧ fieldS x.Op x.B 66 slots = true ∧ fieldS x.Op x.C 67 slots = true ∧
    (hasS x.Op 78 = true ∨ hasS x.Op 110 = true ∨ x.N = 0) ∧ (hasS x.Op 77 = true ∨ x.M = 0) ∧ (hasS x.Op 76 = true ∨ x.Args.length = 0) ∧ x.Args.length ≤ 4 ∧ (∀ l ∈ x.Args, inS l slots = true) ∧ numS x lo hi funcs = true := by
  simp only [mayS, Bool.and_eq_true, Bool.or_eq_true, decide_eq_true_eq, List.all_eq_true] at h
  obtain ⟨⟨⟨⟨⟨⟨⟨h1, ⟨⟨⟨h2, h3⟩, h4⟩, h5⟩⟩, h6⟩, h7⟩, h8⟩, h9⟩, h10⟩, h11⟩ := h
  exact ⟨h1, h2, h3, h4, h5, by rcases h6 with (h | h) | h <;> simp [h], h7, h8, h9, h10, h11⟩
theorem inS_bd {l : Loc} {slots : Int} (h : inS l slots = true) (hs : slots ≤ 160) : (l.Kind = 1 ∨ l.Kind = 2) ∧ 0 ≤ l.N ∧ l.N < 160 := by
  simp only [inS, decide_eq_true_eq] at h; omega
theorem number_t {l : Loc} {slots : Int} (h : inS l slots = true) (hs : slots ≤ 160) : text_number l = some (codeS l) := by
  have := inS_bd h hs
  unfold text_number codeS
  rw [w64_id (n := 2 * l.N) (by omega) (by omega), w64_id (by omega) (by omega)]
  rcases this.1 with hk | hk <;> simp [hk]
theorem number_r {l : Loc} {slots : Int} (h : inS l slots = true) (hs : slots ≤ 160) : portolanref19_Code l = some (codeS l) := by
  have := inS_bd h hs
  unfold portolanref19_Code codeS
  rw [w64_id (n := 2 * l.N) (by omega) (by omega), w64_id (n := 2 * l.N + 1) (by omega) (by omega), w64_id (n := 2 * l.N + 2) (by omega) (by omega)]
  rcases this.1 with hk | hk <;> simp [hk]
theorem code_okI {l : Loc} {slots : Int} (h : inS l slots = true) (hs : slots ≤ 160) : okI (codeS l) ∧ 0 ≤ codeS l := by
  have := inS_bd h hs
  unfold okI codeS
  rcases this.1 with hk | hk <;> simp [hk] <;> omega
theorem one_t {n : Int} (h : okI n) : varint_List [n] = some (putS n) := by
  rw [List_t (by simp) (fun m hm => by rw [List.mem_singleton.1 hm]; exact h)]; simp
theorem one_r {n : Int} (h : okI n) : portolanref01_List [n] = some (putS n) := by
  rw [List_r (by simp) (fun m hm => by rw [List.mem_singleton.1 hm]; exact h)]; simp
theorem field_in {x : Mins} {lo hi slots funcs : Int} (h : mayS x lo hi slots funcs = true) {c : Int} (hc : hasS x.Op c = true) (h4 : c = 68 ∨ c = 65 ∨ c = 66 ∨ c = 67) : inS (locS x c) slots = true := by
  obtain ⟨h1, h2, h3, h4', h5, _⟩ := may_parts h
  unfold fieldS at h2 h3 h4' h5
  rcases h4 with rfl | rfl | rfl | rfl <;> simp only [hc, ↓reduceIte] at * <;> simp only [locS, Int.reduceEq, ↓reduceIte] <;> assumption
theorem args_len {x : Mins} {slots : Int} (h4 : x.Args.length ≤ 4) (hin : ∀ l ∈ x.Args, inS l slots = true) (hs : slots ≤ 160) : (x.Args.flatMap (fun l => putS (codeS l))).length ≤ 40 := by
  have : ∀ (l : List Loc), (∀ y ∈ l, inS y slots = true) → (l.flatMap (fun l => putS (codeS l))).length ≤ l.length * 10 := by
    intro l
    induction l with
    | nil => simp
    | cons a l ih =>
      intro hl
      have h1 := ih (fun y hy => hl y (List.mem_cons_of_mem _ hy))
      have h2 := putS_len (code_okI (hl a (by simp)) hs).1
      rw [List.flatMap_cons, List.length_append, List.length_cons]; omega
  have := this x.Args hin; omega
theorem encF_len {x : Mins} (hx : okMins x) {lo hi slots funcs : Int} (h : mayS x lo hi slots funcs = true) (hs : slots ≤ 160) {c : Int} (hc : c ∈ LS x.Op) : (encF x c).length ≤ 50 := by
  have hh : hasS x.Op c = true := by simpa [hasS] using hc
  have hcl := (LS_ok x.Op).2 c hc
  obtain ⟨_, _, _, _, _, _, _, _, h4, hin, _⟩ := may_parts h
  unfold encF
  split
  · have := putS_len hx.2.1; omega
  split
  · have := putS_len hx.2.2; omega
  split
  · have := sgnS_len hx.2.1; omega
  split
  · rw [List.length_append]
    have h1 := putS_len (n := (x.Args.length : Int)) (by unfold okI; omega)
    have h2 := args_len h4 hin hs
    omega
  · have hi := field_in h hh (by simp only [letters, List.mem_cons, List.not_mem_nil, or_false] at hcl; omega)
    have := putS_len (code_okI hi hs).1; omega
theorem encI_len {x : Mins} (hx : okMins x) {lo hi slots funcs : Int} (h : mayS x lo hi slots funcs = true) (hs : slots ≤ 160) : (encI x).length ≤ 160 := by
  have h1 := putS_len hx.1
  have h3 := (LS_ok x.Op).1
  have : ∀ ls : List Int, (∀ c ∈ ls, (encF x c).length ≤ 50) → (ls.flatMap (encF x)).length ≤ ls.length * 50 := by
    intro ls
    induction ls with
    | nil => simp
    | cons a l ih =>
      intro hl
      have h1 := ih (fun y hy => hl y (List.mem_cons_of_mem _ hy))
      have h2 := hl a (by simp)
      rw [List.flatMap_cons, List.length_append, List.length_cons]; omega
  have h2 := this (LS x.Op) (fun c hc => encF_len hx h hs hc)
  unfold encI; rw [List.length_append]; omega
theorem letter_t {x : Mins} (hx : okMins x) {lo hi slots funcs : Int} (h : mayS x lo hi slots funcs = true) (hs : slots ≤ 160) {i : Nat} {c : Int} (hi : (LS x.Op)[i]? = some c) (s : List Int) (hl : s.length ≤ 10000000) :
    text_Encode.b3 x (LS x.Op) i s = some (.next (s ++ encF x c)) := by
  have hc := List.mem_of_getElem? hi
  have hh : hasS x.Op c = true := by simpa [hasS] using hc
  have hcl := (LS_ok x.Op).2 c hc
  have hlen := encF_len hx h hs hc
  obtain ⟨_, _, _, _, _, _, _, _, h4, hin, _⟩ := may_parts h
  have key : ∀ d, (d = 68 ∨ d = 65 ∨ d = 66 ∨ d = 67) → hasS x.Op d = true → ((text_number (locS x d)).bind fun x25 => (varint_List [x25]).bind fun x26 => (appL 1 s x26).bind fun x27 => some (.next x27) : Option (LR (List Int) (List Int × Int))) = some (.next (s ++ putS (codeS (locS x d)))) := by
    intro d hd hh
    have hin := field_in h hh hd
    have hok := code_okI hin hs
    have := putS_len hok.1
    rw [number_t hin hs, Option.bind_some, one_t hok.1, Option.bind_some, appL_ok (by omega), Option.bind_some]
  unfold encF at hlen ⊢
  simp only [text_Encode.b3, ixL_of hi, Option.bind_some]
  simp only [letters, List.mem_cons, List.not_mem_nil, or_false] at hcl
  rcases hcl with rfl | rfl | rfl | rfl | rfl | rfl | rfl | rfl <;> simp only [Int.reduceBEq, Bool.false_eq_true, ↓reduceIte, beq_self_eq_true, Int.reduceEq] at hlen ⊢
  · exact key 68 (by omega) hh
  · exact key 65 (by omega) hh
  · exact key 66 (by omega) hh
  · exact key 67 (by omega) hh
  · rw [one_t hx.2.1, Option.bind_some, appL_ok (by omega), Option.bind_some]
  · rw [one_t hx.2.2, Option.bind_some, appL_ok (by omega), Option.bind_some]
  · rw [PutSigned_t (by omega) hx.2.1, Option.bind_some]
  · have hn : okI (x.Args.length : Int) := by unfold okI; omega
    have h1 := putS_len hn
    rw [one_t hn, Option.bind_some, appL_ok (by omega), Option.bind_some]
    have := forN_app (l := x.Args) (body := text_Encode.b4 x) (g := fun l => putS (codeS l)) (s := s ++ putS x.Args.length) 10 100000000 (by omega) (by simp; omega) (fun l hl => putS_len (code_okI (hin l hl) hs).1)
      (fun i l s' hl hs' => by
        have hin := hin l (List.mem_of_getElem? hl)
        have hok := code_okI hin hs
        have := putS_len hok.1
        simp only [text_Encode.b4, ixL_of hl, Option.bind_some]
        rw [number_t hin hs, Option.bind_some, one_t hok.1, Option.bind_some, appL_ok (by omega), Option.bind_some])
    rw [aft_next this.1]
    simp [text_Encode.k4]
theorem letter_r {x : Mins} (hx : okMins x) {lo hi slots funcs : Int} (h : mayS x lo hi slots funcs = true) (hs : slots ≤ 160) {i : Nat} {c : Int} (hi : (LS x.Op)[i]? = some c) (s : List Int) (hl : s.length ≤ 10000000) :
    portolanref19_Encode.b3 x (PS x.Op) i s = some (.next (s ++ encF x c)) := by
  have hc := List.mem_of_getElem? hi
  have hh : hasS x.Op c = true := by simpa [hasS] using hc
  have hcl := (LS_ok x.Op).2 c hc
  have hlen := encF_len hx h hs hc
  obtain ⟨_, _, _, _, _, _, _, _, h4, hin, _⟩ := may_parts h
  have key : ∀ d, (d = 68 ∨ d = 65 ∨ d = 66 ∨ d = 67) → hasS x.Op d = true → ((portolanref19_loc x d).bind fun x14 => (portolanref19_Code x14).bind fun x15 => (portolanref01_List [x15]).bind fun x16 => (appL 1 s x16).bind fun x17 => some (.next x17) : Option (LR (List Int) (List Int × Int))) = some (.next (s ++ putS (codeS (locS x d)))) := by
    intro d hd hh
    have hin := field_in h hh hd
    have hok := code_okI hin hs
    have := putS_len hok.1
    have hloc : portolanref19_loc x d = some (locS x d) := by unfold portolanref19_loc locS; simp only [beq_iff_eq, iteS]
    rw [hloc, Option.bind_some, number_r hin hs, Option.bind_some, one_r hok.1, Option.bind_some, appL_ok (by omega), Option.bind_some]
  unfold encF at hlen ⊢
  simp only [portolanref19_Encode.b3, ixS_sb (s := (PS x.Op).1) hi, Option.bind_some]
  simp only [letters, List.mem_cons, List.not_mem_nil, or_false] at hcl
  rcases hcl with rfl | rfl | rfl | rfl | rfl | rfl | rfl | rfl <;> simp only [Int.reduceBEq, Bool.false_eq_true, ↓reduceIte, beq_self_eq_true, Int.reduceEq] at hlen ⊢
  · exact key 68 (by omega) hh
  · exact key 65 (by omega) hh
  · exact key 66 (by omega) hh
  · exact key 67 (by omega) hh
  · rw [one_r hx.2.1, Option.bind_some, appL_ok (by omega), Option.bind_some]
  · rw [one_r hx.2.2, Option.bind_some, appL_ok (by omega), Option.bind_some]
  · rw [PutSigned_r (by simp) hx.2.1, Option.bind_some, List.nil_append, appL_ok (by omega), Option.bind_some]
  · have hn : okI (x.Args.length : Int) := by unfold okI; omega
    have h1 := putS_len hn
    rw [one_r hn, Option.bind_some, appL_ok (by omega), Option.bind_some]
    have := forN_app (l := x.Args) (body := portolanref19_Encode.b4 x) (g := fun l => putS (codeS l)) (s := s ++ putS x.Args.length) 10 100000000 (by omega) (by simp; omega) (fun l hl => putS_len (code_okI (hin l hl) hs).1)
      (fun i l s' hl hs' => by
        have hin := hin l (List.mem_of_getElem? hl)
        have hok := code_okI hin hs
        have := putS_len hok.1
        simp only [portolanref19_Encode.b4, ixL_of hl, Option.bind_some]
        rw [number_r hin hs, Option.bind_some, one_r hok.1, Option.bind_some, appL_ok (by omega), Option.bind_some])
    rw [aft_next this.1]
    simp [portolanref19_Encode.k4]
theorem ins_enc_t {x : Mins} (hx : okMins x) {lo hi slots funcs : Int} (h : mayS x lo hi slots funcs = true) (hs : slots ≤ 160) {t : Text} {i : Nat} (hi : t.Code[i]? = some x) (s : List Int) (hl : s.length ≤ 9000000) :
    text_Encode.b2 t i s = some (.next (s ++ encI x)) := by
  have h1 := putS_len hx.1
  have h3 := (LS_ok x.Op).1
  have hsz := PS_size x.Op
  simp only [text_Encode.b2, ixL_of hi, Option.bind_some, one_t hx.1]
  rw [appL_ok (by omega), Option.bind_some, parts_t, Option.bind_some]
  have hc : chkB (decide (ByteArray.size (PS x.Op).1 ≤ 140737488355328)) (sbytes (PS x.Op).1) = some (LS x.Op) := by
    unfold chkB; rw [if_pos (decide_eq_true (by omega))]; rfl
  rw [hc, Option.bind_some]
  have := forN_app (l := LS x.Op) (body := text_Encode.b3 x (LS x.Op)) (g := encF x) (s := s ++ putS x.Op) 50 10000000 (by omega) (by simp; omega) (fun c hc => encF_len hx h hs hc) (fun i c s' hi' hs' => letter_t hx h hs hi' s' (by omega))
  rw [aft_next this.1]
  simp [text_Encode.k3, encI]
theorem ins_enc_r {x : Mins} (hx : okMins x) {lo hi slots funcs : Int} (h : mayS x lo hi slots funcs = true) (hs : slots ≤ 160) {t : Text} {i : Nat} (hi : t.Code[i]? = some x) (s : List Int) (hl : s.length ≤ 9000000) :
    portolanref19_Encode.b2 t i s = some (.next (s ++ encI x)) := by
  have h1 := putS_len hx.1
  have h3 := (LS_ok x.Op).1
  have hsz := PS_size x.Op
  simp only [portolanref19_Encode.b2, ixL_of hi, Option.bind_some, one_r hx.1]
  rw [appL_ok (by omega), Option.bind_some, parts_r, Option.bind_some]
  have := forN_app (l := LS x.Op) (body := portolanref19_Encode.b3 x (PS x.Op)) (g := encF x) (s := s ++ putS x.Op) 50 10000000 (by omega) (by simp; omega) (fun c hc => encF_len hx h hs hc) (fun i c s' hi' hs' => letter_r hx h hs hi' s' (by omega))
  have hsb : (ByteArray.size (PS x.Op).1 : Int) = ((LS x.Op).length : Int) := by unfold LS; rw [sb_len]
  rw [hsb, aft_next this.1]
  simp [portolanref19_Encode.k3, encI]
theorem encH_ok {t : Text} (h : RightS t = true) {i : Nat} (hi : i < t.Starts.length) : okI (slS t i) ∧ okI (endS t i - stS t i) ∧ 1 ≤ endS t i - stS t i ∧ (encH t i).length ≤ 20 ∧ w64 (endS t i - stS t i) = endS t i - stS t i := by
  have ha := right_at h hi
  have hl := right_len h
  have h1 : okI (slS t i) := by unfold okI; omega
  have h2 : okI (endS t i - stS t i) := by unfold okI; omega
  have p1 := putS_len h1
  have p2 := putS_len h2
  exact ⟨h1, h2, by omega, by unfold encH; rw [List.length_append]; omega, w64_id (by omega) (by omega)⟩
def EncS (t : Text) : List Int × Int := if RightS t then (encT t, 0) else ([], 1)
theorem Encode_t {t : Text} (hok : okText t) (hl : t.Code.length ≤ 281474976710656) : text_Encode t = some (EncS t) := by
  unfold text_Encode EncS
  rw [right_t t hl, Option.bind_some]
  cases h : RightS t
  · simp
  · simp only [↓reduceIte]
    have hr := right_len h
    have hn : okI (t.Starts.length : Int) := by unfold okI; omega
    have p0 := putS_len hn
    rw [one_t hn, Option.bind_some, ends_t (right_fn h).1, Option.bind_some]
    have el : (t.Starts.drop 1 ++ [(t.Code.length : Int)]).length = t.Starts.length := by simp; omega
    rw [el]
    have a1 := forN_app (l := List.range t.Starts.length) (body := text_Encode.b1 t (t.Starts.drop 1 ++ [(t.Code.length : Int)])) (g := encH t) (s := putS t.Starts.length) 20 1000 (by simp; omega) (by simp; omega) (fun i hi => (encH_ok h (by simpa using hi)).2.2.2.1)
      (fun i j s hj hs => by
        have hi : i < t.Starts.length := by have := (List.getElem?_eq_some_iff.1 hj).1; simpa using this
        obtain rfl : i = j := by rw [List.getElem?_range hi] at hj; exact Option.some.inj hj
        have he := encH_ok h hi
        simp only [text_Encode.b1, ends_ix (right_fn h).1 hi, stS_ix hi, slS_ix (t := t) (i := i) (by omega), Option.bind_some, he.2.2.2.2]
        rw [List_t (by simp) (fun m hm => by simp only [List.mem_cons, List.not_mem_nil, or_false] at hm; rcases hm with rfl | rfl; exact he.1; exact he.2.1), Option.bind_some]
        have e2 : [slS t i, endS t i - stS t i].flatMap putS = encH t i := by simp [encH]
        rw [e2, appL_ok (by have := he.2.2.2.1; omega), Option.bind_some])
    rw [List.length_range] at a1
    rw [aft_next a1.1]
    have a2 := forN_app (l := t.Code) (body := text_Encode.b2 t) (g := encI) (s := putS t.Starts.length ++ (List.range t.Starts.length).flatMap (encH t)) 160 8000000 (by omega) (by omega) (fun x hx => by obtain ⟨lo, hi, slots, _, _, h3, h4⟩ := right_may h hx; exact encI_len (hok.1 x hx) h4 h3)
      (fun i x s hx hs => by
        have hm := List.mem_of_getElem? hx
        obtain ⟨lo, hi, slots, _, _, h3, h4⟩ := right_may h hm
        exact ins_enc_t (hok.1 x hm) h4 h3 hx s (by omega))
    unfold text_Encode.k1
    rw [aft_next a2.1]
    rfl
theorem Encode_r {t : Text} (hok : okText t) (hl : t.Code.length ≤ 281474976710656) : portolanref19_Encode t = some (EncS t) := by
  unfold portolanref19_Encode EncS
  rw [right_r t hl, Option.bind_some]
  cases h : RightS t
  · simp
  · simp only [↓reduceIte]
    have hr := right_len h
    have hn : okI (t.Starts.length : Int) := by unfold okI; omega
    have p0 := putS_len hn
    rw [Put_r (by simp) hn, Option.bind_some, List.nil_append]
    have a1 := forN_app (l := List.range t.Starts.length) (body := portolanref19_Encode.b1 t) (g := encH t) (s := putS t.Starts.length) 20 1000 (by simp; omega) (by simp; omega) (fun i hi => (encH_ok h (by simpa using hi)).2.2.2.1)
      (fun i j s hj hs => by
        have hi : i < t.Starts.length := by have := (List.getElem?_eq_some_iff.1 hj).1; simpa using this
        obtain rfl : i = j := by rw [List.getElem?_range hi] at hj; exact Option.some.inj hj
        have he := encH_ok h hi
        have hb : portolanref19_Encode.b1 t i s = portolanref19_Encode.j1 t s i (endS t i) := by
          unfold portolanref19_Encode.b1 endS
          simp only [w64_id (n := (i : Int) + 1) (by omega) (by omega)]
          by_cases hj1 : i + 1 < t.Starts.length
          · have : ((i : Int) + 1 < t.Starts.length) := by omega
            have h2 := stS_ix hj1
            simp only [Int.natCast_add, Int.natCast_one] at h2
            simp [this, hj1, h2]
          · have : ¬ ((i : Int) + 1 < t.Starts.length) := by omega
            simp [this, hj1]
        have p1 := putS_len he.1
        rw [hb]
        simp only [portolanref19_Encode.j1, stS_ix hi, slS_ix (t := t) (i := i) (by omega), Option.bind_some, he.2.2.2.2]
        rw [Put_r (by omega) he.1, Option.bind_some, Put_r (by rw [List.length_append]; omega) he.2.1, Option.bind_some, List.append_assoc]; rfl)
    rw [List.length_range] at a1
    rw [aft_next a1.1]
    have a2 := forN_app (l := t.Code) (body := portolanref19_Encode.b2 t) (g := encI) (s := putS t.Starts.length ++ (List.range t.Starts.length).flatMap (encH t)) 160 8000000 (by omega) (by omega) (fun x hx => by obtain ⟨lo, hi, slots, _, _, h3, h4⟩ := right_may h hx; exact encI_len (hok.1 x hx) h4 h3)
      (fun i x s hx hs => by
        have hm := List.mem_of_getElem? hx
        obtain ⟨lo, hi, slots, _, _, h3, h4⟩ := right_may h hm
        exact ins_enc_r (hok.1 x hm) h4 h3 hx s (by omega))
    unfold portolanref19_Encode.k1
    rw [aft_next a2.1]
    rfl
end Go.Pf
end
section
/- Which function an address lies in: the same by the program and by the document. -/
namespace Go.Pf
open Go.Pp

theorem halve {i j n : Nat} (hij : i ≤ j) (hj : j ≤ n) (hn : n ≤ 1000000) : w64 (shrE (u64 (w64 ((i : Int) + j))) 1 64) = (((i + j) / 2 : Nat) : Int) := by
  rw [w64_id (n := (i : Int) + j) (by omega) (by omega), u64_id (by omega) (by omega)]
  unfold shrE
  rw [show (2 : Int) ^ min (Int.toNat 1) 64 = 2 from rfl, Int.fdiv_eq_ediv_of_nonneg _ (by omega), w64_id (by omega) (by omega)]
  omega
theorem search_t {l : List Int} {a : Int} (hn : l.length ≤ 1000000) (hs : ∀ i j (hi : i < l.length) (hj : j < l.length), i < j → l[i] < l[j]) :
    ∃ p : Nat, ∃ f : Bool, slices_BinarySearch_int l a = some ((p : Int), f) ∧ p ≤ l.length ∧ (∀ m (hm : m < l.length), m < p → l[m] < a) ∧ (∀ m (hm : m < l.length), p ≤ m → a ≤ l[m]) ∧ (f = true ↔ ∃ h : p < l.length, l[p] = a) := by
  unfold slices_BinarySearch_int
  obtain ⟨o, ho, hq⟩ := whileF_rule (body := slices_BinarySearch_int.b1 l a)
    (fun s => ∃ i j : Nat, s = ((i : Int), (j : Int)) ∧ i ≤ j ∧ j ≤ l.length ∧ (∀ m (hm : m < l.length), m < i → l[m] < a) ∧ (∀ m (hm : m < l.length), j ≤ m → a ≤ l[m]))
    (fun s => (s.2 - s.1).toNat)
    (fun o => ∃ p : Nat, ∃ z, o = .brk ((p : Int), z) ∧ p ≤ l.length ∧ (∀ m (hm : m < l.length), m < p → l[m] < a) ∧ (∀ m (hm : m < l.length), p ≤ m → a ≤ l[m]))
    (fun s hI => by
      obtain ⟨i, j, rfl, h1, h2, h3, h4⟩ := hI
      simp only [slices_BinarySearch_int.b1]
      by_cases hij : i < j
      · have e1 : (i : Int) < j := by omega
        have hm : (i + j) / 2 < l.length := by omega
        simp only [e1, decide_true, ↓reduceIte, halve h1 h2 hn, ixL_lt hm, Option.bind_some, cmp_Less_int, cmp_isNaN_int, bne_self_eq_false, Bool.false_eq_true]
        by_cases hc : l[(i + j) / 2] < a
        · simp only [hc, decide_true, ↓reduceIte]
          rw [w64_id (by omega) (by omega)]
          refine ⟨_, rfl, ⟨(i + j) / 2 + 1, j, by simp, by omega, h2, fun m hm1 hm2 => ?_, h4⟩, by simp only []; omega⟩
          by_cases e : m = (i + j) / 2
          · subst e; exact hc
          · have := hs m ((i + j) / 2) hm1 hm (by omega); omega
        · simp only [hc, decide_false, Bool.false_eq_true, ↓reduceIte]
          refine ⟨_, rfl, ⟨i, (i + j) / 2, rfl, by omega, by omega, h3, fun m hm1 hm2 => ?_⟩, by simp only []; omega⟩
          by_cases e : m = (i + j) / 2
          · subst e; omega
          · have := hs ((i + j) / 2) m hm hm1 (by omega); omega
      · have e1 : ¬ (i : Int) < j := by omega
        obtain rfl : i = j := by omega
        simp only [e1, decide_false, Bool.false_eq_true, ↓reduceIte]
        exact ⟨_, rfl, i, _, rfl, h2, h3, h4⟩) 18446744073709551616 (0, (l.length : Int)) ⟨0, l.length, rfl, by omega, Nat.le_refl _, fun m _ h => by omega, fun m hm h => by omega⟩ (by simp only []; omega)
  obtain ⟨p, z, rfl, h1, h2, h3⟩ := hq
  rw [aft_brk ho]
  simp only [slices_BinarySearch_int.k1]
  by_cases hp : p < l.length
  · have e1 : (p : Int) < l.length := by omega
    simp only [e1, decide_true, ↓reduceIte, ixL_lt hp, Option.bind_some, slices_isNaN_int, bne_self_eq_false, Bool.false_eq_true]
    by_cases he : l[p] = a
    · simp only [he, beq_self_eq_true, ↓reduceIte]
      exact ⟨p, true, rfl, h1, h2, h3, by simp [hp, he]⟩
    · have : (l[p] == a) = false := by simp [he]
      simp only [this, Bool.false_eq_true, ↓reduceIte]
      exact ⟨p, false, rfl, h1, h2, h3, by simp [hp, he]⟩
  · have e1 : ¬ (p : Int) < l.length := by omega
    simp only [e1, decide_false, Bool.false_eq_true, ↓reduceIte]
    exact ⟨p, false, rfl, h1, h2, h3, by simp [hp]⟩
theorem starts_step {t : Text} (h : RightS t = true) {i : Nat} (hi : i + 1 < t.Starts.length) : stS t i < stS t (i+1) := by
  have := (right_at h (i := i) (by omega)).2.1
  unfold endS at this; rw [if_pos hi] at this; exact this
theorem starts_mono {t : Text} (h : RightS t = true) : ∀ {i j : Nat}, i < j → j < t.Starts.length → stS t i < stS t j
  | i, 0, h1, _ => by omega
  | i, j+1, h1, h2 => by
    have := starts_step h h2
    by_cases e : i = j
    · subst e; exact this
    · have := starts_mono h (i := i) (j := j) (by omega) (by omega); omega
theorem stS_get {t : Text} {i : Nat} (h : i < t.Starts.length) : t.Starts[i] = stS t i := by simp [stS, h]
/-- what In answers, of a right text -/
def inOk (t : Text) (a v : Int) : Prop := if 0 ≤ a ∧ a < t.Code.length then ∃ i : Nat, v = (i : Int) ∧ i < t.Starts.length ∧ stS t i ≤ a ∧ (i + 1 < t.Starts.length → a < stS t (i+1)) else v = -1
theorem inOk_uniq {t : Text} (h : RightS t = true) {a v w : Int} (h1 : inOk t a v) (h2 : inOk t a w) : v = w := by
  unfold inOk at h1 h2
  split at h1
  · rw [if_pos (by assumption)] at h2
    obtain ⟨i, rfl, a1, a2, a3⟩ := h1
    obtain ⟨j, rfl, b1, b2, b3⟩ := h2
    rcases Nat.lt_trichotomy i j with hij | rfl | hij
    · by_cases e : i + 1 = j
      · subst e; have := a3 b1; omega
      · have := starts_mono h (i := i+1) (j := j) (by omega) b1; have := a3 (by omega); omega
    · rfl
    · by_cases e : j + 1 = i
      · subst e; have := b3 a1; omega
      · have := starts_mono h (i := j+1) (j := i) (by omega) a1; have := b3 (by omega); omega
  · rw [if_neg (by assumption)] at h2; omega
theorem In_t {t : Text} (h : RightS t = true) (a : Int) : ∃ v, text_In t a = some v ∧ inOk t a v := by
  have hl := right_len h
  unfold text_In
  rw [w64_id (by omega) (by omega), within_t, Option.bind_some]
  by_cases hr : 0 ≤ a ∧ a < t.Code.length
  · have e1 : decide (0 ≤ a ∧ a ≤ (t.Code.length : Int) - 1) = true := by simp; omega
    rw [e1]
    simp only [inOk, hr, and_self, ↓reduceIte]
    obtain ⟨p, f, h1, h2, h3, h4, h5⟩ := search_t (l := t.Starts) (a := a) (by omega) (fun i j hi hj hij => by rw [stS_get hi, stS_get hj]; exact starts_mono h hij hj)
    rw [h1, Option.bind_some]
    cases f
    · simp only [Bool.false_eq_true, ↓reduceIte]
      have hp : 0 < p := by
        rcases Nat.eq_zero_or_pos p with rfl | hp
        · exfalso
          have h0 := h4 0 (by omega) (Nat.le_refl _)
          rw [stS_get (t := t) (i := 0) (by omega), hl.2.2.2.2] at h0
          have : a = 0 := by omega
          have := h5.2 ⟨by omega, by rw [stS_get (t := t) (i := 0) (by omega), hl.2.2.2.2]; omega⟩
          cases this
        · exact hp
      rw [w64_id (by omega) (by omega)]
      refine ⟨_, rfl, p - 1, by omega, by omega, ?_, fun hp1 => ?_⟩
      · have := h3 (p - 1) (by omega) (by omega)
        rw [stS_get (t := t) (i := p - 1) (by omega)] at this; omega
      · rw [show p - 1 + 1 = p by omega] at hp1 ⊢
        have h6 := h4 p hp1 (Nat.le_refl _)
        have : ¬ t.Starts[p] = a := fun e => by have := h5.2 ⟨hp1, e⟩; cases this
        rw [stS_get hp1] at h6 this; omega
    · simp only [↓reduceIte]
      obtain ⟨hp, he⟩ := h5.1 rfl
      rw [stS_get hp] at he
      exact ⟨_, rfl, p, rfl, hp, by omega, fun hp1 => by have := starts_step h hp1; omega⟩
  · have e1 : decide (0 ≤ a ∧ a ≤ (t.Code.length : Int) - 1) = false := by simp; omega
    rw [e1]
    simp only [inOk, hr, Bool.false_eq_true, ↓reduceIte]
    exact ⟨_, rfl, rfl⟩
theorem In_r {t : Text} (h : RightS t = true) (a : Int) : ∃ v, portolanref19_In t a = some v ∧ inOk t a v := by
  have hl := right_len h
  unfold portolanref19_In
  rw [w64_id (by omega) (by omega)]
  obtain ⟨o, ho, hq⟩ := whileF_rule (body := portolanref19_In.b1 t a) (fun k => -1 ≤ k ∧ k < t.Starts.length ∧ ((0 ≤ a ∧ a < t.Code.length) → (k + 1 < t.Starts.length → a < stS t (k+1).toNat))) (fun k => (k + 1).toNat)
    (fun o => (∃ v, o = .ret v ∧ inOk t a v) ∨ (∃ s, o = .brk s ∧ ¬ (0 ≤ a ∧ a < t.Code.length)))
    (fun k hI => by
      obtain ⟨k1, k2, k3⟩ := hI
      simp only [portolanref19_In.b1]
      by_cases hk : 0 ≤ k
      · obtain ⟨i, rfl⟩ : ∃ i : Nat, k = (i : Int) := ⟨k.toNat, by omega⟩
        have hi : i < t.Starts.length := by omega
        simp only [hk, decide_true, ↓reduceIte, stS_ix hi, Option.bind_some]
        rw [w64_id (n := (i : Int) - 1) (by omega) (by omega)]
        have ei : ((i : Int) + 1).toNat = i + 1 := by omega
        rw [ei] at k3
        have ei2 : ((i : Int) - 1 + 1).toNat = i := by omega
        by_cases c1 : stS t i ≤ a
        · by_cases c2 : a < t.Code.length
          · refine ⟨.ret (i : Int), by simp [c1, c2], .inl ⟨_, rfl, ?_⟩⟩
            have h0 := (right_at h hi).1
            unfold inOk
            rw [if_pos ⟨by omega, c2⟩]
            exact ⟨i, rfl, hi, c1, fun h1 => k3 ⟨by omega, c2⟩ (by omega)⟩
          · refine ⟨.next ((i : Int) - 1), by simp [c1, c2], ?_⟩
            simp only [ei2]
            exact ⟨⟨by omega, by omega, fun hr => by omega⟩, by omega⟩
        · refine ⟨.next ((i : Int) - 1), by simp [c1], ?_⟩
          simp only [ei2]
          exact ⟨⟨by omega, by omega, fun _ _ => by omega⟩, by omega⟩
      · refine ⟨.brk k, by simp [hk], ?_⟩
        refine .inr ⟨_, rfl, fun hr => ?_⟩
        have : k = -1 := by omega
        subst this
        have := k3 hr (by omega)
        simp only [Int.reduceNeg, Int.reduceAdd, Int.toNat_zero] at this
        rw [hl.2.2.2.2] at this
        omega) 18446744073709551616 ((t.Starts.length : Int) - 1) ⟨by omega, by omega, fun _ h1 => by omega⟩ (by omega)
  rcases hq with ⟨v, rfl, hv⟩ | ⟨s, rfl, hn⟩
  · rw [aft_ret ho]; exact ⟨v, rfl, hv⟩
  · rw [aft_brk ho]; exact ⟨_, rfl, by unfold inOk; rw [if_neg hn]⟩
def argsN (l : List Mins) : Nat := (l.map (·.Args.length)).sum
/-- the parts are counted, or are too many -/
theorem Great19 {t : Text} (h1 : t.Code.length ≤ 281474976710656) (h2 : t.Starts.length ≤ 281474976710656) (h3 : t.Slots.length ≤ 281474976710656) (h4 : ∀ x ∈ t.Code, x.Args.length ≤ 281474976710656) :
    ∃ b, portolanref19_Great t = some b ∧ (b = false → t.Code.length + t.Starts.length + t.Slots.length ≤ 2000) := by
  unfold portolanref19_Great
  rw [w64_id (n := (t.Code.length : Int) + t.Starts.length) (by omega) (by omega), w64_id (by omega) (by omega)]
  obtain ⟨o, ho, hq⟩ := forN_rule (body := portolanref19_Great.b1 t) (s := (t.Code.length : Int) + t.Starts.length + t.Slots.length) (n := t.Code.length) (fun j x => (t.Code.length : Int) + t.Starts.length + t.Slots.length ≤ x ∧ x ≤ 1000000000000000)
    (fun o => ∃ x, (o = .next x ∨ o = .brk x) ∧ (t.Code.length : Int) + t.Starts.length + t.Slots.length ≤ x) (by omega) ⟨by omega, by omega⟩
    (fun j x hj hI => by
      simp only [portolanref19_Great.b1]
      by_cases c : x ≤ 2000
      · have hm := h4 _ (List.getElem_mem hj)
        simp only [c, decide_true, ↓reduceIte, ixL_lt hj, Option.bind_some]
        rw [w64_id (by omega) (by omega)]
        refine ⟨_, rfl, ?_⟩
        simp only []; omega
      · refine ⟨.brk x, by simp [c], x, .inr rfl, hI.1⟩)
    (fun x hI => ⟨x, .inl rfl, hI.1⟩)
  obtain ⟨x, hx, hle⟩ := hq
  rcases hx with rfl | rfl
  · rw [aft_next ho]; exact ⟨_, rfl, fun hb => by have := of_decide_eq_false hb; omega⟩
  · rw [aft_brk ho]; exact ⟨_, rfl, fun hb => by have := of_decide_eq_false hb; omega⟩
end Go.Pf
end
section
/- Texts there and back. -/
namespace Go.Pf
open Go.Pp

/-- bytes that a parser takes for a value; cut off anywhere they are short -/
def Enc {α : Type} (p : List Int → Rs α) (w : List Int) (v : α) : Prop := (∀ r, p (w ++ r) = .ok v r) ∧ ∀ k, k < w.length → p (w.take k) = .bad 2
theorem Enc.pure {α : Type} (v : α) : Enc (fun l => .ok v l) [] v := ⟨fun r => rfl, fun k h => by simp at h⟩
theorem Enc.bind {α β : Type} {p : List Int → Rs α} {f : α → List Int → Rs β} {w1 w2 : List Int} {v : α} {u : β} (h1 : Enc p w1 v) (h2 : Enc (f v) w2 u) : Enc (fun l => bindR (p l) f) (w1 ++ w2) u := by
  constructor
  · intro r; simp only []; rw [List.append_assoc, h1.1]; exact h2.1 r
  · intro k hk
    simp only []
    by_cases hk1 : k < w1.length
    · rw [List.take_append_of_le_length (by omega), h1.2 k hk1]; rfl
    · rw [List.take_append, List.take_of_length_le (by omega), h1.1]
      exact h2.2 _ (by rw [List.length_append] at hk; omega)
theorem Enc.map {α β : Type} {p : List Int → Rs α} {f : α → β} {w : List Int} {v : α} (h : Enc p w v) : Enc (fun l => mapR f (p l)) w (f v) := by
  constructor
  · intro r; simp only []; rw [h.1]; rfl
  · intro k hk; simp only []; rw [h.2 k hk]; rfl
theorem Enc.num {v lo hi : Int} (h : okI v) (h0 : 0 ≤ v) (h1 : lo ≤ v) (h2 : v ≤ hi) : Enc (numP false lo hi) (putS v) v := ⟨fun r => numP_put h h0 h1 h2, fun k hk => numP_cut h h0 hk⟩
theorem Enc.sgn {v : Int} (h : okI v) : Enc (numP true (-big-1) big) (sgnS v) v := ⟨fun r => numP_sgn h, fun k hk => numP_scut h hk⟩
theorem le_big {v : Int} (h : okI v) : v ≤ big := h.2
theorem place_code {l : Loc} {slots : Int} (h : inS l slots = true) (hs : slots ≤ 160) : placeS (codeS l) = some l := by
  have hb := inS_bd h hs
  simp only [inS, decide_eq_true_eq] at h
  obtain ⟨k, n⟩ := l
  simp only [] at h hb
  unfold placeS codeS
  rcases h with ⟨rfl, h1, h2⟩ | ⟨rfl, h1, h2⟩
  · simp only [↓reduceIte]
    rw [if_neg (by omega), if_pos (by omega), if_neg (by omega)]
    congr 2; omega
  · simp only [Int.reduceEq, ↓reduceIte]
    rw [if_neg (by omega), if_neg (by omega)]
    congr 2; omega
theorem Enc.loc {l : Loc} {slots : Int} (h : inS l slots = true) (hs : slots ≤ 160) : Enc locP (putS (codeS l)) l := by
  have hc := code_okI h hs
  have hn := Enc.num (lo := 0) (hi := big) hc.1 hc.2 hc.2 (le_big hc.1)
  constructor
  · intro r; unfold locP; rw [hn.1]; simp only [place_code h hs]
  · intro k hk; unfold locP; rw [hn.2 k hk]
theorem Enc.args {slots : Int} (hs : slots ≤ 160) : ∀ (b a : List Loc), (∀ l ∈ b, inS l slots = true) → Enc (argsP b.length a) (b.flatMap (fun l => putS (codeS l))) (a ++ b)
  | [], a, _ => by rw [List.append_nil]; exact Enc.pure a
  | l :: b, a, h => by
    have h1 := Enc.loc (h l (by simp)) hs
    have h2 := Enc.args hs b (a ++ [l]) (fun y hy => h y (List.mem_cons_of_mem _ hy))
    rw [List.append_assoc, List.singleton_append] at h2
    have := Enc.bind (p := locP) (f := fun x r => argsP b.length (a ++ [x]) r) h1 h2
    rw [List.flatMap_cons, List.length_cons]
    have e : argsP (b.length + 1) a = fun l => bindR (locP l) (fun x r => argsP b.length (a ++ [x]) r) := by
      funext l; rw [argsP]; cases locP l <;> rfl
    rw [e]; exact this
/-- a field of one instruction put into another -/
def setF (x y : Mins) (c : Int) : Mins :=
  if c = 78 then { y with N := x.N } else if c = 77 then { y with M := x.M } else if c = 110 then { y with N := x.N }
  else if c = 76 then { y with Args := x.Args } else if c = 68 then { y with D := x.D } else if c = 65 then { y with A := x.A } else if c = 66 then { y with B := x.B } else { y with C := x.C }
def fieldOk (x : Mins) (c slots : Int) : Prop := okI x.N ∧ okI x.M ∧ (c = 78 → 0 ≤ x.N) ∧ (c = 77 → 0 ≤ x.M) ∧ (c = 76 → x.Args.length ≤ 4 ∧ ∀ l ∈ x.Args, inS l slots = true) ∧ ((c = 68 ∨ c = 65 ∨ c = 66 ∨ c = 67) → inS (locS x c) slots = true)
theorem Enc.field {x y : Mins} {c slots : Int} (hc : c ∈ letters) (hf : fieldOk x c slots) (hs : slots ≤ 160) (hy : c = 76 → y.Args = []) : Enc (fieldP c y) (encF x c) (setF x y c) := by
  obtain ⟨h1, h2, h3, h4, h5, h6⟩ := hf
  have hb := le_big h1
  have hb2 := le_big h2
  have e : fieldP c y = fun l => fieldP c y l := rfl
  rw [e]
  simp only [letters, List.mem_cons, List.not_mem_nil, or_false] at hc
  rcases hc with rfl | rfl | rfl | rfl | rfl | rfl | rfl | rfl <;> simp only [fieldP, encF, setF, Int.reduceEq, ↓reduceIte]
  · exact Enc.map (Enc.loc (h6 (by simp)) hs)
  · exact Enc.map (Enc.loc (h6 (by simp)) hs)
  · exact Enc.map (Enc.loc (h6 (by simp)) hs)
  · exact Enc.map (Enc.loc (h6 (by simp)) hs)
  · exact Enc.map (Enc.num h1 (h3 rfl) (h3 rfl) hb)
  · exact Enc.map (Enc.num h2 (h4 rfl) (h4 rfl) hb2)
  · exact Enc.map (Enc.sgn h1)
  · have h5 := h5 rfl
    have ha := Enc.args hs x.Args [] h5.2
    rw [List.nil_append] at ha
    refine Enc.bind (Enc.num (v := (x.Args.length : Int)) (by unfold okI; omega) (by omega) (by omega) (by omega)) ?_
    simp only [Int.toNat_natCast, hy rfl]
    exact Enc.map ha
theorem Enc.letters {x : Mins} {slots : Int} (hs : slots ≤ 160) : ∀ (ls : List Int) (y : Mins), (∀ c ∈ ls, c ∈ Pf.letters ∧ fieldOk x c slots) → ls.Nodup → (76 ∈ ls → y.Args = []) → Enc (lettersP ls y) (ls.flatMap (encF x)) (ls.foldl (setF x) y)
  | [], y, _, _, _ => Enc.pure y
  | c :: ls, y, h, hd, hy => by
    have hc := h c (by simp)
    rw [List.nodup_cons] at hd
    rw [List.flatMap_cons, List.foldl_cons]
    refine Enc.bind (p := fieldP c y) (f := lettersP ls) (Enc.field hc.1 hc.2 hs (fun e => hy (by simp [e]))) (Enc.letters hs ls _ (fun d hd => h d (List.mem_cons_of_mem _ hd)) hd.2 (fun h76 => ?_))
    have : c ≠ 76 := fun e => hd.1 (e ▸ h76)
    have := hy (List.mem_cons_of_mem _ h76)
    unfold setF
    (repeat' split) <;> first | exact this | (exfalso; omega)
theorem set_fields {x : Mins} : ∀ (ls : List Int) (y : Mins), (∀ c ∈ ls, c ∈ letters) →
    (ls.foldl (setF x) y).Op = y.Op ∧ (ls.foldl (setF x) y).D = (if 68 ∈ ls then x.D else y.D) ∧ (ls.foldl (setF x) y).A = (if 65 ∈ ls then x.A else y.A) ∧ (ls.foldl (setF x) y).B = (if 66 ∈ ls then x.B else y.B) ∧ (ls.foldl (setF x) y).C = (if 67 ∈ ls then x.C else y.C) ∧
    (ls.foldl (setF x) y).N = (if 78 ∈ ls ∨ 110 ∈ ls then x.N else y.N) ∧ (ls.foldl (setF x) y).M = (if 77 ∈ ls then x.M else y.M) ∧ (ls.foldl (setF x) y).Args = (if 76 ∈ ls then x.Args else y.Args)
  | [], y, _ => by simp
  | c :: ls, y, h => by
    have hc := h c (by simp)
    rw [List.foldl_cons]
    obtain ⟨h0, h1, h2, h3, h4, h5, h6, h7⟩ := set_fields ls (setF x y c) (fun d hd => h d (List.mem_cons_of_mem _ hd))
    rw [h0, h1, h2, h3, h4, h5, h6, h7]
    simp only [letters, List.mem_cons, List.not_mem_nil, or_false] at hc
    rcases hc with rfl | rfl | rfl | rfl | rfl | rfl | rfl | rfl <;> simp [setF] <;> (try split) <;> simp_all
theorem nodup_fin : ∀ n : Fin 26, (LS (n.val : Int)).Nodup ∧ ¬ (78 ∈ LS (n.val : Int) ∧ 110 ∈ LS (n.val : Int)) ∧ (hasS (n.val : Int) 78 = true → (n.val : Int) ∈ [10, 11, 12, 13, 14, 15, 19, 21, 22]) ∧ (hasS (n.val : Int) 77 = true → (n.val : Int) ∈ [10, 22]) := by decide +kernel
theorem may_fieldOk {x : Mins} (hx : okMins x) {lo hi slots funcs : Int} (h0 : 0 ≤ lo) (h : mayS x lo hi slots funcs = true) {c : Int} (hc : c ∈ LS x.Op) : fieldOk x c slots := by
  have hh : hasS x.Op c = true := by simpa [hasS] using hc
  obtain ⟨p1, p2, p3, p4, p5, p6, p7, p8, p9, p10, p11⟩ := may_parts h
  obtain ⟨n, hn⟩ := fin_of (op_of p1)
  have hnd := nodup_fin n
  rw [← hn] at hnd
  refine ⟨hx.2.1, hx.2.2, fun e => ?_, fun e => ?_, fun e => ⟨p9, p10⟩, fun e => field_in h hh e⟩
  · subst e
    have := hnd.2.2.1 hh
    simp only [List.mem_cons, List.not_mem_nil, or_false] at this
    unfold numS at p11
    rcases this with e | e | e | e | e | e | e | e | e <;> simp [e] at p11 <;> omega
  · subst e
    have := hnd.2.2.2 hh
    simp only [List.mem_cons, List.not_mem_nil, or_false] at this
    unfold numS at p11
    rcases this with e | e <;> simp [e] at p11 <;> omega
theorem Enc.ins {x : Mins} (hx : okMins x) {lo hi slots funcs : Int} (h0 : 0 ≤ lo) (hs : slots ≤ 160) (h : mayS x lo hi slots funcs = true) : Enc insP (encI x) x := by
  obtain ⟨p1, p2, p3, p4, p5, p6, p7, p8, p9, p10, p11⟩ := may_parts h
  have hop := op_of p1
  obtain ⟨n, hn⟩ := fin_of hop
  have hnd := nodup_fin n
  rw [← hn] at hnd
  have hls := LS_ok x.Op
  have key : (LS x.Op).foldl (setF x) (zeroI x.Op) = x := by
    obtain ⟨h0, h1, h2, h3, h4, h5, h6, h7⟩ := set_fields (x := x) (LS x.Op) (zeroI x.Op) hls.2
    have hm : ∀ c, (c ∈ LS x.Op) = (hasS x.Op c = true) := fun c => by simp [hasS]
    have hz : ∀ {l : Loc} {c : Int}, fieldS x.Op l c slots = true → (if hasS x.Op c = true then l else ⟨0, 0⟩) = l := by
      intro l c hl
      unfold fieldS at hl
      split
      · rfl
      · rename_i hc
        simp only [hc, Bool.false_eq_true, ↓reduceIte, decide_eq_true_eq] at hl
        cases l; simp_all
    simp only [hm, show (zeroI x.Op).D = ⟨0, 0⟩ from rfl, show (zeroI x.Op).A = ⟨0, 0⟩ from rfl, show (zeroI x.Op).B = ⟨0, 0⟩ from rfl, show (zeroI x.Op).C = ⟨0, 0⟩ from rfl, show (zeroI x.Op).N = 0 from rfl, show (zeroI x.Op).M = 0 from rfl, show (zeroI x.Op).Args = [] from rfl] at h1 h2 h3 h4 h5 h6 h7
    rw [hz p2] at h1; rw [hz p3] at h2; rw [hz p4] at h3; rw [hz p5] at h4
    have e5 : (if hasS x.Op 78 = true ∨ hasS x.Op 110 = true then x.N else 0) = x.N := by
      split
      · rfl
      · rcases p6 with h | h | h
        · simp_all
        · simp_all
        · exact h.symm
    have e6 : (if hasS x.Op 77 = true then x.M else 0) = x.M := by
      split
      · rfl
      · rcases p7 with h | h
        · simp_all
        · exact h.symm
    have e7 : (if hasS x.Op 76 = true then x.Args else []) = x.Args := by
      split
      · rfl
      · rcases p8 with h | h
        · simp_all
        · exact (List.length_eq_zero_iff.1 h).symm
    rw [e5] at h5; rw [e6] at h6; rw [e7] at h7
    have h0' : ((LS x.Op).foldl (setF x) (zeroI x.Op)).Op = x.Op := h0
    generalize (LS x.Op).foldl (setF x) (zeroI x.Op) = z at h0' h1 h2 h3 h4 h5 h6 h7
    have ez : z = ⟨z.Op, z.D, z.A, z.B, z.C, z.N, z.M, z.Args⟩ := rfl
    rw [ez, h0', h1, h2, h3, h4, h5, h6, h7]
  have hl := Enc.letters (x := x) hs (LS x.Op) (zeroI x.Op) (fun c hc => ⟨hls.2 c hc, may_fieldOk hx h0 h hc⟩) hnd.1 (fun _ => rfl)
  rw [key] at hl
  unfold encI
  have := Enc.bind (p := numP false 0 big) (f := fun op r => if (PS op).2 then lettersP (LS op) (zeroI op) r else .bad 5) (v := x.Op) (Enc.num hx.1 (by omega) (by omega) (le_big hx.1)) (u := x) (w2 := (LS x.Op).flatMap (encF x)) (by simp only [p1, ↓reduceIte]; exact hl)
  exact this
theorem Enc.code : ∀ (b a : List Mins), (∀ x ∈ b, Enc insP (encI x) x) → Enc (codeP b.length a) (b.flatMap encI) (a ++ b)
  | [], a, _ => by rw [List.append_nil]; exact Enc.pure a
  | x :: b, a, h => by
    have h2 := Enc.code b (a ++ [x]) (fun y hy => h y (List.mem_cons_of_mem _ hy))
    rw [List.append_assoc, List.singleton_append] at h2
    exact Enc.bind (p := insP) (f := fun x r => codeP b.length (a ++ [x]) r) (h x (by simp)) h2
theorem Enc.head {t : Text} (h : RightS t = true) : ∀ (k i : Nat) (st sl : List Int), i + k = t.Starts.length → st = t.Starts.take i → sl = t.Slots.take i →
    Enc (headP k st sl (if i < t.Starts.length then stS t i else t.Code.length)) ((List.range' i k).flatMap (encH t)) (t.Starts, t.Slots, (t.Code.length : Int))
  | 0, i, st, sl, hi, e1, e2 => by
    have hl := right_len h
    subst e1; subst e2
    rw [if_neg (by omega), List.take_of_length_le (by omega), List.take_of_length_le (by omega)]
    exact Enc.pure _
  | k+1, i, st, sl, hi, e1, e2 => by
    have hl := right_len h
    have hil : i < t.Starts.length := by omega
    have he := encH_ok h hil
    have ha := right_at h hil
    rw [if_pos hil, List.range'_succ, List.flatMap_cons, encH, List.append_assoc]
    refine Enc.bind (p := numP false 0 big) (f := fun s r => bindR (numP false 1 (8000 - stS t i) r) fun n r' => headP k (st ++ [stS t i]) (sl ++ [s]) (stS t i + n) r') (Enc.num he.1 (by omega) (by omega) (le_big he.1)) ?_
    refine Enc.bind (p := numP false 1 (8000 - stS t i)) (f := fun n r' => headP k (st ++ [stS t i]) (sl ++ [slS t i]) (stS t i + n) r') (Enc.num he.2.1 (by omega) (by omega) (by omega)) ?_
    have := Enc.head h k (i+1) (st ++ [stS t i]) (sl ++ [slS t i]) (by omega) (by rw [e1, List.take_add_one, List.getElem?_eq_getElem hil, ← stS_get hil]; rfl)
      (by rw [e2, List.take_add_one, List.getElem?_eq_getElem (by omega)]; simp [slS, show i < t.Slots.length by omega])
    have e : stS t i + (endS t i - stS t i) = if i + 1 < t.Starts.length then stS t (i+1) else t.Code.length := by unfold endS; omega
    rw [e]; exact this
theorem Enc.text {t : Text} (hok : okText t) (h : RightS t = true) : Enc textP (encT t) t := by
  have hl := right_len h
  unfold encT
  rw [List.append_assoc]
  have hn : okI (t.Starts.length : Int) := by unfold okI; omega
  refine Enc.bind (p := numP false 1 8) (f := fun n r => bindR (headP n.toNat [] [] 0 r) fun h r' => bindR (codeP h.2.2.toNat [] r') fun c r'' => .ok (Text.mk c h.1 h.2.1) r'') (Enc.num hn (by omega) (by omega) (by omega)) ?_
  have hh := Enc.head h t.Starts.length 0 [] [] (by omega) rfl rfl
  rw [if_pos (by omega), hl.2.2.2.2, ← List.range_eq_range'] at hh
  rw [Int.toNat_natCast]
  refine Enc.bind (p := headP t.Starts.length [] [] 0) (f := fun h r' => bindR (codeP h.2.2.toNat [] r') fun c r'' => .ok (Text.mk c h.1 h.2.1) r'') hh ?_
  have hc := Enc.code t.Code [] (fun x hx => by
    obtain ⟨lo, hi, slots, h1, h2, h3, h4⟩ := right_may h hx
    exact Enc.ins (hok.1 x hx) h1 h3 h4)
  rw [List.nil_append] at hc
  have := Enc.bind (p := codeP t.Code.length []) (f := fun c r'' => .ok (Text.mk c t.Starts t.Slots) r'') hc (Enc.pure _)
  rw [List.append_nil] at this
  exact this
end Go.Pf
end
section
/- Texts: what is decoded has just those bytes. -/
namespace Go.Pf
open Go.Pp

theorem place_inv {n : Int} {x : Loc} (h : placeS n = some x) : codeS x = n := by
  unfold placeS at h
  split at h
  · cases h
  split at h
  · split at h
    · cases h
    · cases h; simp only [codeS, ↓reduceIte]; omega
  · cases h; simp only [codeS, Int.reduceEq, ↓reduceIte]; omega
theorem locP_inv {l r : List Int} {x : Loc} (hb : okB l) (h : locP l = .ok x r) : l = putS (codeS x) ++ r ∧ okB r := by
  unfold locP at h
  cases hp : numP false 0 big l with
  | bad e => rw [hp] at h; cases h
  | ok n r1 =>
    rw [hp] at h
    simp only [] at h
    have hn := numP_ok hb hp
    cases hq : placeS n with
    | none => rw [hq] at h; cases h
    | some y =>
      rw [hq] at h
      simp only [Rs.ok.injEq] at h
      obtain ⟨rfl, rfl⟩ := h
      rw [place_inv hq]
      exact ⟨hn.2.2.2.1, (numP_len hb hp).1⟩
theorem argsP_inv : ∀ {k : Nat} {a a' : List Loc} {l r : List Int}, okB l → argsP k a l = .ok a' r → ∃ b, a' = a ++ b ∧ b.length = k ∧ l = b.flatMap (fun l => putS (codeS l)) ++ r ∧ okB r
  | 0, a, a', l, r, hb, h => by cases h; exact ⟨[], by simp, rfl, by simp, hb⟩
  | k+1, a, a', l, r, hb, h => by
    rw [argsP] at h
    cases hp : locP l with
    | bad e => rw [hp] at h; cases h
    | ok x r1 =>
      rw [hp] at h
      simp only [] at h
      have h1 := locP_inv hb hp
      obtain ⟨b, e1, e2, e3, e4⟩ := argsP_inv h1.2 h
      exact ⟨x :: b, by rw [e1]; simp, by simp [e2], by rw [List.flatMap_cons, List.append_assoc, ← e3]; exact h1.1, e4⟩
theorem mapR_ok {α β : Type} {f : α → β} {x : Rs α} {v : β} {r : List Int} (h : mapR f x = .ok v r) : ∃ u, x = .ok u r ∧ v = f u := by
  cases x with
  | ok u r' => simp only [mapR, Rs.ok.injEq] at h; exact ⟨u, by rw [h.2], h.1.symm⟩
  | bad e => cases h
theorem bindR_ok {α β : Type} {f : α → List Int → Rs β} {x : Rs α} {v : β} {r : List Int} (h : bindR x f = .ok v r) : ∃ u r1, x = .ok u r1 ∧ f u r1 = .ok v r := by
  cases x with
  | ok u r' => exact ⟨u, r', rfl, h⟩
  | bad e => cases h
/-- a letter touches another one's field -/
def touch (c d : Int) : Prop := c = d ∨ (c = 78 ∧ d = 110) ∨ (c = 110 ∧ d = 78)
theorem fieldP_inv {c : Int} {y y' : Mins} {l r : List Int} (hc : c ∈ letters) (hb : okB l) (hy : c = 76 → y.Args = []) (hN : okI y.N ∧ okI y.M) (h : fieldP c y l = .ok y' r) :
    l = encF y' c ++ r ∧ okB r ∧ (∀ d ∈ letters, ¬ touch c d → encF y' d = encF y d) ∧ (c ≠ 76 → y'.Args = y.Args) ∧ okI y'.N ∧ okI y'.M ∧ y'.Op = y.Op := by
  simp only [letters, List.mem_cons, List.not_mem_nil, or_false] at hc
  rcases hc with rfl | rfl | rfl | rfl | rfl | rfl | rfl | rfl <;> simp only [fieldP, Int.reduceEq, ↓reduceIte] at h
  · obtain ⟨v, h1, rfl⟩ := mapR_ok h
    have h2 := locP_inv hb h1
    exact ⟨h2.1, h2.2, fun d hd ht => by simp only [letters, List.mem_cons, List.not_mem_nil, or_false] at hd; rcases hd with rfl | rfl | rfl | rfl | rfl | rfl | rfl | rfl <;> first | rfl | (exfalso; exact ht (by unfold touch; omega)), fun _ => rfl, hN.1, hN.2, rfl⟩
  · obtain ⟨v, h1, rfl⟩ := mapR_ok h
    have h2 := locP_inv hb h1
    exact ⟨h2.1, h2.2, fun d hd ht => by simp only [letters, List.mem_cons, List.not_mem_nil, or_false] at hd; rcases hd with rfl | rfl | rfl | rfl | rfl | rfl | rfl | rfl <;> first | rfl | (exfalso; exact ht (by unfold touch; omega)), fun _ => rfl, hN.1, hN.2, rfl⟩
  · obtain ⟨v, h1, rfl⟩ := mapR_ok h
    have h2 := locP_inv hb h1
    exact ⟨h2.1, h2.2, fun d hd ht => by simp only [letters, List.mem_cons, List.not_mem_nil, or_false] at hd; rcases hd with rfl | rfl | rfl | rfl | rfl | rfl | rfl | rfl <;> first | rfl | (exfalso; exact ht (by unfold touch; omega)), fun _ => rfl, hN.1, hN.2, rfl⟩
  · obtain ⟨v, h1, rfl⟩ := mapR_ok h
    have h2 := locP_inv hb h1
    exact ⟨h2.1, h2.2, fun d hd ht => by simp only [letters, List.mem_cons, List.not_mem_nil, or_false] at hd; rcases hd with rfl | rfl | rfl | rfl | rfl | rfl | rfl | rfl <;> first | rfl | (exfalso; exact ht (by unfold touch; omega)), fun _ => rfl, hN.1, hN.2, rfl⟩
  · obtain ⟨v, h1, rfl⟩ := mapR_ok h
    have h2 := numP_ok hb h1
    exact ⟨h2.2.2.2.1, (numP_len hb h1).1, fun d hd ht => by simp only [letters, List.mem_cons, List.not_mem_nil, or_false] at hd; rcases hd with rfl | rfl | rfl | rfl | rfl | rfl | rfl | rfl <;> first | rfl | (exfalso; exact ht (by unfold touch; omega)), fun _ => rfl, h2.2.2.1, hN.2, rfl⟩
  · obtain ⟨v, h1, rfl⟩ := mapR_ok h
    have h2 := numP_ok hb h1
    exact ⟨h2.2.2.2.1, (numP_len hb h1).1, fun d hd ht => by simp only [letters, List.mem_cons, List.not_mem_nil, or_false] at hd; rcases hd with rfl | rfl | rfl | rfl | rfl | rfl | rfl | rfl <;> first | rfl | (exfalso; exact ht (by unfold touch; omega)), fun _ => rfl, hN.1, h2.2.2.1, rfl⟩
  · obtain ⟨v, h1, rfl⟩ := mapR_ok h
    have h2 := numP_ok hb h1
    exact ⟨h2.2.2.2.1, (numP_len hb h1).1, fun d hd ht => by simp only [letters, List.mem_cons, List.not_mem_nil, or_false] at hd; rcases hd with rfl | rfl | rfl | rfl | rfl | rfl | rfl | rfl <;> first | rfl | (exfalso; exact ht (by unfold touch; omega)), fun _ => rfl, h2.2.2.1, hN.2, rfl⟩
  · obtain ⟨n, r1, h1, h3⟩ := bindR_ok h
    obtain ⟨v, h4, rfl⟩ := mapR_ok h3
    have h2 := numP_ok hb h1
    rw [hy rfl] at h4
    obtain ⟨b, e1, e2, e3, e4⟩ := argsP_inv (numP_len hb h1).1 h4
    rw [List.nil_append] at e1
    subst e1
    refine ⟨?_, e4, fun d hd ht => by simp only [letters, List.mem_cons, List.not_mem_nil, or_false] at hd; rcases hd with rfl | rfl | rfl | rfl | rfl | rfl | rfl | rfl <;> first | rfl | (exfalso; exact ht (by unfold touch; omega)), fun e => absurd rfl e, hN.1, hN.2, rfl⟩
    have : (v.length : Int) = n := by omega
    simp only [encF, Int.reduceEq, ↓reduceIte, this]
    rw [List.append_assoc, ← e3]; exact h2.2.2.2.1
theorem lettersP_inv : ∀ {ls : List Int} {y x : Mins} {l r : List Int}, (∀ c ∈ ls, c ∈ letters) → ls.Nodup → ¬ (78 ∈ ls ∧ 110 ∈ ls) → (76 ∈ ls → y.Args = []) → okB l → (okI y.N ∧ okI y.M) → lettersP ls y l = .ok x r →
    l = ls.flatMap (encF x) ++ r ∧ okB r ∧ (∀ d ∈ letters, (∀ c ∈ ls, ¬ touch c d) → encF x d = encF y d) ∧ okI x.N ∧ okI x.M ∧ x.Op = y.Op
  | [], y, x, l, r, hl, hd, hn, hy, hb, hN, h => by cases h; exact ⟨by simp, hb, fun _ _ _ => rfl, hN.1, hN.2, rfl⟩
  | c :: ls, y, x, l, r, hl, hd, hn, hy, hb, hN, h => by
    obtain ⟨y', r1, h1, h2⟩ := bindR_ok h
    rw [List.nodup_cons] at hd
    obtain ⟨f1, f2, f3, f4, f5, f6, f7⟩ := fieldP_inv (hl c (by simp)) hb (fun e => hy (by simp [e])) hN h1
    have hc76 : 76 ∈ ls → y'.Args = [] := fun h76 => by
      rw [f4 (fun e => hd.1 (e ▸ h76))]; exact hy (List.mem_cons_of_mem _ h76)
    obtain ⟨g1, g2, g3, g4, g5, g6⟩ := lettersP_inv (fun d hd => hl d (List.mem_cons_of_mem _ hd)) hd.2 (fun e => hn ⟨List.mem_cons_of_mem _ e.1, List.mem_cons_of_mem _ e.2⟩) hc76 f2 ⟨f5, f6⟩ h2
    have hnt : ∀ d ∈ ls, ¬ touch d c := by
      intro d hdl ht
      rcases ht with rfl | ⟨rfl, rfl⟩ | ⟨rfl, rfl⟩
      · exact hd.1 hdl
      · exact hn ⟨List.mem_cons_of_mem _ hdl, by simp⟩
      · exact hn ⟨by simp, List.mem_cons_of_mem _ hdl⟩
    refine ⟨?_, g2, fun d hdl ht => ?_, g4, g5, by rw [g6, f7]⟩
    · rw [List.flatMap_cons, g3 c (hl c (by simp)) hnt, List.append_assoc, ← g1]; exact f1
    · rw [g3 d hdl (fun c' hc' => ht c' (List.mem_cons_of_mem _ hc')), f3 d hdl (ht c (by simp))]
theorem LS_nodup (op : Int) : (LS op).Nodup ∧ ¬ (78 ∈ LS op ∧ 110 ∈ LS op) := by
  by_cases h : 0 ≤ op ∧ op < 26
  · obtain ⟨n, rfl⟩ := fin_of h; exact ⟨(nodup_fin n).1, (nodup_fin n).2.1⟩
  · have : LS op = [] := by unfold LS; rw [PS_out h]; rfl
    simp [this]
theorem insP_inv {l r : List Int} {x : Mins} (hb : okB l) (h : insP l = .ok x r) : l = encI x ++ r ∧ okB r ∧ okMins x := by
  obtain ⟨op, r1, h1, h2⟩ := bindR_ok h
  have hn := numP_ok hb h1
  split at h2
  · have hd := LS_nodup op
    have hz : okI 0 := by unfold okI; omega
    obtain ⟨g1, g2, g3, g4, g5, g6⟩ := lettersP_inv (LS_ok op).2 hd.1 hd.2 (fun _ => rfl) (numP_len hb h1).1 ⟨hz, hz⟩ h2
    have e : x.Op = op := g6
    refine ⟨?_, g2, ?_, g4, g5⟩
    · unfold encI; rw [e, List.append_assoc, ← g1]; exact hn.2.2.2.1
    · rw [e]; exact hn.2.2.1
  · cases h2
theorem codeP_inv : ∀ {k : Nat} {a c : List Mins} {l r : List Int}, okB l → codeP k a l = .ok c r → ∃ b, c = a ++ b ∧ b.length = k ∧ l = b.flatMap encI ++ r ∧ okB r ∧ ∀ x ∈ b, okMins x
  | 0, a, c, l, r, hb, h => by cases h; exact ⟨[], by simp, rfl, by simp, hb, by simp⟩
  | k+1, a, c, l, r, hb, h => by
    obtain ⟨x, r1, h1, h2⟩ := bindR_ok h
    have h3 := insP_inv hb h1
    obtain ⟨b, e1, e2, e3, e4, e5⟩ := codeP_inv h3.2.1 h2
    refine ⟨x :: b, by rw [e1]; simp, by simp [e2], by rw [List.flatMap_cons, List.append_assoc, ← e3]; exact h3.1, e4, ?_⟩
    intro y hy
    rcases List.mem_cons.1 hy with rfl | hy
    · exact h3.2.2
    · exact e5 y hy
theorem headP_ext : ∀ {k : Nat} {st sl : List Int} {all : Int} {l r : List Int} {h : List Int × List Int × Int}, okB l → 0 ≤ all → all ≤ 8000 → headP k st sl all l = .ok h r →
    (∃ s2, h.1 = st ++ s2 ∧ ∀ a ∈ s2, okI a) ∧ (∃ s2, h.2.1 = sl ++ s2 ∧ ∀ a ∈ s2, okI a)
  | 0, st, sl, all, l, r, h, hb, h0, h1, e => by cases e; exact ⟨⟨[], by simp, by simp⟩, ⟨[], by simp, by simp⟩⟩
  | k+1, st, sl, all, l, r, h, hb, h0, h1, e => by
    obtain ⟨s, r1, h2, h3⟩ := bindR_ok e
    obtain ⟨n, r2, h4, h5⟩ := bindR_ok h3
    have a1 := numP_ok hb h2
    have b1 := (numP_len hb h2).1
    have a2 := numP_ok b1 h4
    obtain ⟨⟨u, e1, e2⟩, ⟨v, e3, e4⟩⟩ := headP_ext (numP_len b1 h4).1 (by omega) (by omega) h5
    refine ⟨⟨all :: u, by rw [e1]; simp, ?_⟩, ⟨s :: v, by rw [e3]; simp, ?_⟩⟩
    · intro a ha; rcases List.mem_cons.1 ha with rfl | ha
      · unfold okI; omega
      · exact e2 a ha
    · intro a ha; rcases List.mem_cons.1 ha with rfl | ha
      · exact a1.2.2.1
      · exact e4 a ha
theorem headP_inv {t : Text} : ∀ {k i : Nat} {st sl : List Int} {all : Int} {l r : List Int}, okB l → 0 ≤ all → all ≤ 8000 → i + k = t.Starts.length → st.length = i → sl.length = i →
    headP k st sl all l = .ok (t.Starts, t.Slots, (t.Code.length : Int)) r → all = (if i < t.Starts.length then stS t i else t.Code.length) ∧ l = (List.range' i k).flatMap (encH t) ++ r ∧ okB r
  | 0, i, st, sl, all, l, r, hb, h0, h1, hi, hs, ht, e => by
    simp only [headP, Rs.ok.injEq, Prod.mk.injEq] at e
    obtain ⟨⟨e1, e2, e3⟩, rfl⟩ := e
    exact ⟨by rw [if_neg (by omega)]; exact e3, by simp, hb⟩
  | k+1, i, st, sl, all, l, r, hb, h0, h1, hi, hs, ht, e => by
    obtain ⟨s, r1, h2, h3⟩ := bindR_ok e
    obtain ⟨n, r2, h4, h5⟩ := bindR_ok h3
    have a1 := numP_ok hb h2
    have b1 := (numP_len hb h2).1
    have a2 := numP_ok b1 h4
    have b2 := (numP_len b1 h4).1
    obtain ⟨⟨u, e1, _⟩, ⟨v, e3, _⟩⟩ := headP_ext b2 (by omega) (by omega) h5
    simp only [] at e1 e3
    obtain ⟨g1, g2, g3⟩ := headP_inv (t := t) (i := i + 1) b2 (by omega) (by omega) (by omega) (by simp [hs]) (by simp [ht]) h5
    have es : stS t i = all := by unfold stS; rw [e1, List.getD_eq_getElem?_getD]; simp [hs]
    have el : slS t i = s := by unfold slS; rw [e3, List.getD_eq_getElem?_getD]; simp [ht]
    have ee : endS t i = all + n := by unfold endS; omega
    refine ⟨by rw [if_pos (by omega)]; exact es.symm, ?_, g3⟩
    have en : endS t i - stS t i = n := by omega
    rw [List.range'_succ, List.flatMap_cons, encH, el, en, List.append_assoc, List.append_assoc, ← g2]
    rw [← (show r1 = putS n ++ r2 from a2.2.2.2.1)]
    exact a1.2.2.2.1
theorem textP_inv {l r : List Int} {t : Text} (hb : okB l) (h : textP l = .ok t r) : l = encT t ++ r ∧ okText t := by
  obtain ⟨n, r1, h1, h2⟩ := bindR_ok h
  obtain ⟨hd, r2, h3, h4⟩ := bindR_ok h2
  obtain ⟨c, r3, h5, h6⟩ := bindR_ok h4
  simp only [Rs.ok.injEq] at h6
  obtain ⟨e6, rfl⟩ := h6
  have a1 := numP_ok hb h1
  have b1 := (numP_len hb h1).1
  have a2 := headP_small b1 (by omega) (by omega) h3
  obtain ⟨b, c1, c2, c3, c4, c5⟩ := codeP_inv a2.2.2.2.2.1 h5
  rw [List.nil_append] at c1
  subst c1
  have hl : (c.length : Int) = hd.2.2 := by omega
  have e1 : t.Starts = hd.1 := by rw [← e6]
  have e2 : t.Slots = hd.2.1 := by rw [← e6]
  have e3 : t.Code = c := by rw [← e6]
  have hh : headP n.toNat [] [] 0 r1 = .ok (t.Starts, t.Slots, (t.Code.length : Int)) r2 := by rw [h3, e1, e2, e3, hl]
  have a3 := a2.1
  simp only [List.length_nil, Nat.zero_add] at a3
  obtain ⟨g1, g2, g3⟩ := headP_inv (t := t) (i := 0) b1 (by omega) (by omega) (by rw [e1]; omega) rfl rfl hh
  obtain ⟨⟨u, u1, u2⟩, ⟨v, v1, v2⟩⟩ := headP_ext b1 (by omega) (by omega) h3
  refine ⟨?_, by rw [e3]; exact c5, by rw [e1, u1, List.nil_append]; exact u2, by rw [e2, v1, List.nil_append]; exact v2⟩
  unfold encT
  have en : (t.Starts.length : Int) = n := by rw [e1]; omega
  have en2 : t.Starts.length = n.toNat := by omega
  rw [en, en2, List.range_eq_range', e3, List.append_assoc, List.append_assoc, ← c3, ← g2]
  exact a1.2.2.2.1
end Go.Pf
end
section
/- The plain laws of texts. -/
namespace Go.Pf
open Go.Pp

theorem putS_B (n : Int) : okB (putS n) := by
  intro a ha; unfold putS at ha; split at ha
  · cases ha
  · exact digS_byte _ a ha
theorem sgnS_B (n : Int) : okB (sgnS n) := fun a ha => digS_byte _ a ha
theorem okB_app {a b : List Int} (h1 : okB a) (h2 : okB b) : okB (a ++ b) := fun x hx => by
  rcases List.mem_append.1 hx with h | h
  · exact h1 x h
  · exact h2 x h
theorem okB_flat {α : Type} {l : List α} {f : α → List Int} (h : ∀ x ∈ l, okB (f x)) : okB (l.flatMap f) := fun a ha => by
  obtain ⟨x, hx, hax⟩ := List.mem_flatMap.1 ha; exact h x hx a hax
theorem encF_B (x : Mins) (c : Int) : okB (encF x c) := by
  unfold encF
  (repeat' split)
  · exact putS_B _
  · exact putS_B _
  · exact sgnS_B _
  · exact okB_app (putS_B _) (okB_flat fun _ _ => putS_B _)
  · exact putS_B _
theorem encT_B (t : Text) : okB (encT t) :=
  okB_app (okB_app (putS_B _) (okB_flat fun _ _ => okB_app (putS_B _) (putS_B _))) (okB_flat fun x _ => okB_app (putS_B _) (okB_flat fun c _ => encF_B x c))
theorem flat_len {α : Type} {f : α → List Int} {K : Nat} : ∀ (l : List α), (∀ x ∈ l, (f x).length ≤ K) → (l.flatMap f).length ≤ l.length * K
  | [], _ => by simp
  | a :: l, h => by
    have h1 := flat_len l (fun y hy => h y (List.mem_cons_of_mem _ hy))
    have h2 := h a (by simp)
    rw [List.flatMap_cons, List.length_append, List.length_cons, Nat.add_mul]; omega
theorem encT_len {t : Text} (hok : okText t) (h : RightS t = true) : (encT t).length ≤ 2000000 := by
  have hr := right_len h
  have hn := putS_len (n := (t.Starts.length : Int)) (by unfold okI; omega)
  have h1 := flat_len (f := encH t) (K := 20) (List.range t.Starts.length) (fun i hi => (encH_ok h (by simpa using hi)).2.2.2.1)
  have h2 := flat_len (f := encI) (K := 160) t.Code (fun x hx => by obtain ⟨lo, hi, slots, _, _, h3, h4⟩ := right_may h hx; exact encI_len (hok.1 x hx) h4 h3)
  rw [List.length_range] at h1
  unfold encT; rw [List.length_append, List.length_append]; omega
theorem encT_ne {t : Text} : 1 ≤ (encT t).length := by
  have : 1 ≤ (putS (t.Starts.length : Int)).length := by unfold putS; rw [if_neg (by omega)]; exact digS_pos _
  unfold encT; rw [List.length_append, List.length_append]; omega
def boundT (t : Text) : Prop := t.Code.length ≤ 281474976710656 ∧ t.Starts.length ≤ 281474976710656 ∧ t.Slots.length ≤ 281474976710656 ∧ ∀ x ∈ t.Code, x.Args.length ≤ 281474976710656
theorem boundT_small {t : Text} (h : boundT t) : smallT t := ⟨by have := h.1; omega, by have := h.2.1; omega, by have := h.2.2.1; omega, fun x hx => by have := h.2.2.2 x hx; omega⟩
theorem DecS_enc {t : Text} (hok : okText t) (h : RightS t = true) : DecS (encT t) = (t, 0) := by
  have := (Enc.text hok h).1 []
  rw [List.append_nil] at this
  unfold DecS; rw [this]; simp [h]
theorem TextIn_plain {t : Text} {a : Int} (hb : boundT t) : portolanlaw19_TextIn t a = some true := by
  unfold portolanlaw19_TextIn
  obtain ⟨b, hg, _⟩ := Great19 hb.1 hb.2.1 hb.2.2.1 hb.2.2.2
  rw [alive19, Option.bind_some, hg, Option.bind_some]
  simp only [↓reduceIte]
  cases b
  · simp only [Bool.false_eq_true, ↓reduceIte]
    rw [right_t t hb.1, Option.bind_some]
    cases h : RightS t
    · simp [portolanlaw19_TextIn.j1]
    · have hl := right_len h
      obtain ⟨v, h1, h2⟩ := In_t h a
      unfold inOk at h2
      simp only [portolanlaw19_TextIn.j1, Bool.not_true, Bool.false_eq_true, ↓reduceIte, h1, Option.bind_some]
      by_cases h0 : a < 0
      · rw [if_neg (by omega)] at h2
        simp [h0, portolanlaw19_TextIn.j2, h2]
      · by_cases h3 : (t.Code.length : Int) ≤ a
        · rw [if_neg (by omega)] at h2
          simp [h0, h3, portolanlaw19_TextIn.j2, h2]
        · rw [if_pos (by omega)] at h2
          obtain ⟨i, rfl, i1, i2, i3⟩ := h2
          have e1 : (0 : Int) ≤ (i : Int) := by omega
          have e2 : (i : Int) < t.Starts.length := by omega
          simp only [h0, h3, decide_false, Bool.false_eq_true, ↓reduceIte, portolanlaw19_TextIn.j2, e1, e2, decide_true, stS_ix i1, Option.bind_some, i2]
          rw [w64_id (by omega) (by omega)]
          by_cases h4 : i + 1 < t.Starts.length
          · have e3 : ((i : Int) + 1 == t.Starts.length) = false := by simp; omega
            have h5 := stS_ix h4
            simp only [Int.natCast_add, Int.natCast_one] at h5
            simp only [e3, Bool.false_eq_true, ↓reduceIte, h5, Option.bind_some, i3 h4, decide_true]
          · have e3 : ((i : Int) + 1 == t.Starts.length) = true := by simp; omega
            simp only [e3, ↓reduceIte]
  · simp [portolanlaw19_TextIn.j1]
theorem TextEncodes_plain {t : Text} {op a : Int} (hb : boundT t) (hok : okText t) : portolanlaw19_TextEncodes t op a = some true := by
  unfold portolanlaw19_TextEncodes
  obtain ⟨b, hg, _⟩ := Great19 hb.1 hb.2.1 hb.2.2.1 hb.2.2.2
  rw [alive19, Option.bind_some, hg, Option.bind_some]
  simp only [↓reduceIte]
  cases b
  · simp only [Bool.false_eq_true, ↓reduceIte]
    have hlen : (EncS t).1.length ≤ 4611686018427387904 := by
      unfold EncS; split
      · have := encT_len hok (by assumption); simp only []; omega
      · simp
    rw [Encode_t hok hb.1, Option.bind_some, Encode_r hok hb.1, Option.bind_some, parts_t, Option.bind_some, parts_r, Option.bind_some, Same01 hlen, right_t t hb.1, right_r t hb.1]
    simp only [decide_true, Option.bind_some, ↓reduceIte, bne_self_eq_false, Bool.false_eq_true, beq_self_eq_true, Bool.not_true, portolanlaw19_TextEncodes.j1]
    unfold EncS
    cases h : RightS t
    · simp
    · obtain ⟨v, h1, h2⟩ := In_t h a
      obtain ⟨w, h3, h4⟩ := In_r h a
      simp only [↓reduceIte, bne_self_eq_false, Bool.false_eq_true, h1, h3, Option.bind_some]
      rw [inOk_uniq h h2 h4]; simp
  · simp
theorem back_second {l : List Int} (hb : okB l) (hl : l.length ≤ 5000) : portolanlaw19_TextBack.j2 l = some true := by
  unfold portolanlaw19_TextBack.j2
  rw [Decode_t hb (by omega), Option.bind_some]
  unfold DecS
  cases h : textP l with
  | bad e =>
    by_cases he : e = 0
    · exfalso
      have : ∀ {sg : Bool} {lo hi : Int} {l : List Int}, numP sg lo hi l ≠ .bad 0 := by
        intro sg lo hi l hh
        unfold numP numQ at hh
        split at hh
        · split at hh <;> simp at hh
        · simp only [Rs.bad.injEq] at hh; contradiction
      subst he
      have w := (within_sim 1 8 (by omega) l hb (by omega)).1
      have d := Decode_t hb (by omega)
      -- an error is never 0
      have nz : ∀ {l : List Int}, okB l → l.length ≤ 4611686018427387904 → insP l ≠ .bad 0 := fun hb hl hh => by
        have := (ins_t _ hb hl).1; rw [hh] at this; exact this.1 rfl
      unfold textP at h
      cases hp : numP false 1 8 l with
      | bad e => rw [hp] at h; simp only [bindR, Rs.bad.injEq] at h; subst h; exact this hp
      | ok n r =>
        rw [hp] at h
        simp only [bindR] at h
        have a1 := numP_ok hb hp
        have b1 := numP_len hb hp
        have hh := (head_t n.toNat 0 [] [] 0 r b1.1 (by omega) (by omega) (by omega) (by simp; omega) (by simp; omega)).1
        cases hq : headP n.toNat [] [] 0 r with
        | bad e => rw [hq] at h hh; simp only [Rs.bad.injEq] at h; subst h; exact hh.1 rfl
        | ok hd r2 =>
          rw [hq] at h
          simp only [] at h
          have b2 := headP_small b1.1 (by omega) (by omega) hq
          have hc := code_t hd.2.2.toNat 0 [] r2 b2.2.2.2.2.1 (by omega) (by simp; omega)
          cases hz : codeP hd.2.2.toNat [] r2 with
          | bad e => rw [hz] at h hc; simp only [Rs.bad.injEq] at h; subst h; exact hc.1 rfl
          | ok c r3 => rw [hz] at h; cases h
    · have : (e != 0) = true := by simp [he]
      simp [this]
  | ok t r =>
    simp only []
    by_cases hr : r = [] ∧ RightS t = true
    · obtain ⟨rfl, hR⟩ := hr
      obtain ⟨e1, hok⟩ := textP_inv hb h
      rw [List.append_nil] at e1
      have hs := (textP_small hb (by omega) h)
      simp only [hR, and_self, ↓reduceIte, bne_self_eq_false, Bool.false_eq_true]
      rw [Encode_t hok (by omega), Option.bind_some]
      unfold EncS
      simp only [hR, ↓reduceIte, beq_self_eq_true]
      rw [← e1, Same01 (by omega)]; simp
    · simp [hr]
theorem TextBack_plain {t : Text} {l : List Int} (hb : boundT t) (hok : okText t) (hl : okB l) : portolanlaw19_TextBack t l = some true := by
  unfold portolanlaw19_TextBack
  obtain ⟨b, hg, _⟩ := Great19 hb.1 hb.2.1 hb.2.2.1 hb.2.2.2
  rw [alive19, Option.bind_some, hg, Option.bind_some]
  simp only [↓reduceIte]
  cases b
  · simp only [Bool.false_eq_true, ↓reduceIte]
    by_cases h5 : 5000 < (l.length : Int)
    · simp [h5, portolanlaw19_TextBack.j1]
    · simp only [h5, decide_false, portolanlaw19_TextBack.j1, Bool.false_eq_true, ↓reduceIte]
      rw [Encode_t hok hb.1, Option.bind_some]
      unfold EncS
      cases h : RightS t
      · simp only [Bool.false_eq_true, ↓reduceIte, Int.reduceBEq]
        exact back_second hl (by omega)
      · simp only [↓reduceIte, beq_self_eq_true]
        have hlen := encT_len hok h
        rw [Decode_t (encT_B t) (by omega), Option.bind_some, DecS_enc hok h]
        simp only [bne_self_eq_false, Bool.false_eq_true, ↓reduceIte]
        rw [Same19 (boundT_small hb), Option.bind_some]
        simp only [decide_true, ↓reduceIte]
        exact back_second hl (by omega)
  · simp [portolanlaw19_TextBack.j1]
theorem TextOnce_plain {t u : Text} {cut : Int} (hb : boundT t) (hok : okText t) (hb2 : boundT u) (hok2 : okText u) (hc : 0 ≤ cut ∧ cut ≤ 65535) : portolanlaw19_TextOnce t u cut = some true := by
  unfold portolanlaw19_TextOnce
  obtain ⟨b, hg, _⟩ := Great19 hb.1 hb.2.1 hb.2.2.1 hb.2.2.2
  obtain ⟨b2, hg2, _⟩ := Great19 hb2.1 hb2.2.1 hb2.2.2.1 hb2.2.2.2
  rw [alive19, Option.bind_some, hg, hg2, Option.bind_some, Option.bind_some]
  simp only [↓reduceIte]
  cases b
  · simp only [Bool.false_eq_true, ↓reduceIte]
    cases b2
    · simp only [portolanlaw19_TextOnce.j1, Bool.false_eq_true, ↓reduceIte]
      rw [Encode_t hok hb.1, Option.bind_some, Encode_t hok2 hb2.1, Option.bind_some]
      unfold EncS
      cases h : RightS t
      · simp [portolanlaw19_TextOnce.j2]
      · cases h2 : RightS u
        · simp [portolanlaw19_TextOnce.j2]
        · simp only [↓reduceIte, bne_self_eq_false, Bool.false_eq_true, portolanlaw19_TextOnce.j2]
          have hlen := encT_len hok h
          have hne := encT_ne (t := t)
          have ec : chkB (decide (¬ ((encT t).length : Int) = 0)) () = some () := by unfold chkB; rw [if_pos (decide_eq_true (by omega))]
          rw [ec, Option.bind_some, w64_id (by omega) (by omega), Int.tmod_eq_emod_of_nonneg (by omega)]
          have hm : 0 ≤ cut % ((encT t).length : Int) ∧ cut % ((encT t).length : Int) < (encT t).length := ⟨Int.emod_nonneg _ (by omega), Int.emod_lt_of_pos _ (by omega)⟩
          generalize cut % ((encT t).length : Int) = q at hm ⊢
          rw [headL_ok hm.1 (by omega), Option.bind_some]
          have d1 : DecS ((encT t).take q.toNat) = (⟨[], [], []⟩, 2) := by
            unfold DecS
            rw [(Enc.text hok h).2 _ (by omega)]
          have d2 : DecS (encT t ++ [1]) = (⟨[], [], []⟩, 5) := by
            unfold DecS
            rw [(Enc.text hok h).1]; simp
          rw [Decode_t (fun a ha => encT_B t a (List.mem_of_mem_take ha)) (by simp; omega), Option.bind_some, d1, appL_ok (by simp; omega), Option.bind_some, List.nil_append, appL_ok (by simp; omega), Option.bind_some,
            Decode_t (okB_app (encT_B t) (fun a ha => by rw [List.mem_singleton.1 ha]; omega)) (by simp; omega), Option.bind_some, d2, Same01 (by omega), Option.bind_some, Same19 (boundT_small hb), Option.bind_some]
          have : decide (encT t = encT u) = decide (t = u) := by
            rw [decide_eq_decide]
            constructor
            · intro e
              have e1 := (Enc.text hok h).1 []
              have e2 := (Enc.text hok2 h2).1 []
              rw [e, e2] at e1
              simp only [Rs.ok.injEq, and_true] at e1
              exact e1.symm
            · rintro rfl; rfl
          simp [this]
    · simp [portolanlaw19_TextOnce.j1]
  · simp [portolanlaw19_TextOnce.j1]
end Go.Pf
end
