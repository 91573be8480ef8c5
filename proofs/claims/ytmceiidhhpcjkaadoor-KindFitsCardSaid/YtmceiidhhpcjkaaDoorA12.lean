/- A machine that carries out the translated code on data, and why it is right, part 12 -/
import Derived.ChangeArms
import Derived.OpenShut
import Derived.ReadAgain
import Derived.SizedLaws
import Derived.Test.YtmceiidhhpcjkaaDoorA11
set_option linter.all false
section
/- What the laws are asked of: arguments that read as data are trees. -/
namespace Go.Ab
open Go Go.ChangeShapes

inductive WT (P : Program) : TypeId → List Tr → Prop
  | bool {t : TypeId} (h : P.underlying t = some .bool) (b : Bool) : WT P t [.lit (.bool b)]
  | int {t : TypeId} {k : IntKind} (h : P.underlying t = some (.int k)) (n : Int) (hn : (Lit.int k n).wf = true) : WT P t [.lit (.int k n)]
  | str {t : TypeId} (h : P.underlying t = some .string) (s : ByteArray) (hs : s.size ≤ reachBytes) : WT P t [.lit (.string s)]
  | sl {t e : TypeId} (h : P.underlying t = some (.slice e)) (es : List (List Tr)) (hl : es.length * P.bytesOf e ≤ reachBytes) (he : ∀ x ∈ es, WT P e x) : WT P t [.sl (P.cellsOf e) false es]
  | struct {t : TypeId} {fs : Array Field} (h : P.underlying t = some (.struct fs)) (ps : List (List Tr)) (hl : ps.length = fs.size)
      (hp : ∀ (i : Nat) (f : Field) (p : List Tr), fs[i]? = some f → ps[i]? = some p → WT P f.type p) : WT P t ps.flatten

def sideBy (P : Program) : Nat → List Field → Bool
  | _, [] => true
  | n, f :: r => f.offset == n && sideBy P (n + P.cellsOf f.type) r
def treeTy (P : Program) : Nat → TypeId → Bool
  | 0, _ => false
  | n + 1, t =>
    match P.underlying t with
    | some .bool => true
    | some (.int _) => true
    | some .string => true
    | some (.slice e) => decide (0 < P.cellsOf e) && treeTy P n e
    | some (.struct fs) => sideBy P 0 fs.toList && fs.toList.all (fun f => treeTy P n f.type) && decide (P.cellsOf t = (fs.toList.map (fun f => P.cellsOf f.type)).sum)
    | _ => false

def memOf (w : World) : Mem := fun b => w.heap[b]?

theorem cell_mem {w : World} {a : Addr} {v : Value} (h : w.cell? a = some v) : (memOf w).cell a.block a.off = some v ∧ a.spot = none := by
  unfold World.cell? at h
  unfold Mem.cell memOf
  cases hb : w.heap[a.block]? with
  | none => simp [hb] at h
  | some o =>
    cases o with
    | cells c t f =>
      simp only [hb] at h
      cases hs : a.spot with
      | none => simp [hs] at h; exact ⟨by simpa using h, rfl⟩
      | some s => simp [hs] at h
    | _ => simp [hb] at h

theorem cells_get {w : World} {base n : Nat} {a : Addr} {cs : List Value} (h : w.cells? base a n = some cs) : cs.length = n ∧ ∀ i, i < n → w.cell? (a.add i) = cs[i]? := by
  unfold World.cells? at h
  split at h
  · exact ⟨by simpa using mapM_some_length h, fun i hi => mapM_some_get h i i (by simp [hi])⟩
  · cases h

def TRs (M : Mem) (ts : List Tr) (cs : List Value) : Prop := ts.length = cs.length ∧ ∀ (j : Nat) (x : Tr), ts[j]? = some x → TR M x (cs.getD j undef)
theorem TRs.nil (M : Mem) : TRs M [] [] := ⟨rfl, fun j x h => by simp at h⟩
theorem TRs.one {M : Mem} {t : Tr} {v : Value} (h : TR M t v) : TRs M [t] [v] := ⟨rfl, fun j x hj => by
  cases j with
  | zero => simp at hj; subst hj; simpa using h
  | succ j => simp at hj⟩
theorem TRs.app {M : Mem} {a b : List Tr} {as bs : List Value} (h : TRs M a as) (k : TRs M b bs) : TRs M (a ++ b) (as ++ bs) := ⟨by simp [h.1, k.1], fun j x hj => by
  by_cases hlt : j < a.length
  · rw [List.getElem?_append_left hlt] at hj
    have := h.2 j x hj
    have h2 : j < as.length := h.1 ▸ hlt
    simpa [List.getD_eq_getElem?_getD, List.getElem?_append_left h2] using this
  · rw [List.getElem?_append_right (by omega)] at hj
    have := k.2 _ x hj
    have h2 : as.length ≤ j := by rw [← h.1]; omega
    simpa [List.getD_eq_getElem?_getD, List.getElem?_append_right h2, h.1] using this⟩

theorem exists_list {α : Type} {R : Nat → α → Prop} : ∀ (n : Nat), (∀ i, i < n → ∃ x, R i x) → ∃ l : List α, l.length = n ∧ ∀ i x, l[i]? = some x → R i x
  | 0, _ => ⟨[], rfl, fun i x h => by simp at h⟩
  | n + 1, h => by
    obtain ⟨l, h1, h2⟩ := exists_list n (fun i hi => h i (by omega))
    obtain ⟨x, hx⟩ := h n (by omega)
    refine ⟨l ++ [x], by simp [h1], fun i y hy => ?_⟩
    by_cases hi : i < l.length
    · rw [List.getElem?_append_left hi] at hy; exact h2 i y hy
    · rw [List.getElem?_append_right (by omega)] at hy
      have : i - l.length = 0 := by
        rcases Nat.eq_zero_or_pos (i - l.length) with h | h
        · exact h
        · rw [List.getElem?_eq_none (by simp; omega)] at hy; cases hy
      rw [this] at hy
      simp at hy
      subst hy
      rw [show i = n by omega]
      exact hx

section
variable {H : Type} {enc : TypeId × Value → H} {P : Program} {w : World} {base : Nat} {sp : Nat → Bool} {held : Bool}

theorem side_tree {M : Mem} {cs : List Value} : ∀ (fs : List Field) (off : Nat), sideBy P off fs = true → cs.length = off + (fs.map (fun f => P.cellsOf f.type)).sum →
    (∀ (i : Nat) (f : Field), fs[i]? = some f → ∃ p, WT P f.type p ∧ TRs M p ((cs.drop f.offset).take (P.cellsOf f.type))) →
    ∃ ps : List (List Tr), ps.length = fs.length ∧ (∀ (i : Nat) (f : Field) (p : List Tr), fs[i]? = some f → ps[i]? = some p → WT P f.type p) ∧ TRs M ps.flatten (cs.drop off)
  | [], off, _, hl, _ => ⟨[], rfl, fun i f p h => by simp at h, by
      have : cs.drop off = [] := by simp at hl; simp; omega
      rw [this]; exact TRs.nil M⟩
  | f :: r, off, hs, hl, h => by
    simp only [sideBy, Bool.and_eq_true, beq_iff_eq] at hs
    obtain ⟨rfl, hs⟩ := hs
    obtain ⟨p, hp, hT⟩ := h 0 f rfl
    obtain ⟨ps, a, b, c⟩ := side_tree r (f.offset + P.cellsOf f.type) hs (by simp only [List.map_cons, List.sum_cons] at hl; omega) (fun i g hg => h (i + 1) g (by simpa using hg))
    refine ⟨p :: ps, by simp [a], fun i g q hg hq => ?_, ?_⟩
    · cases i with
      | zero => simp at hg hq; subst hg hq; exact hp
      | succ i => exact b i g q (by simpa using hg) (by simpa using hq)
    · have e : cs.drop f.offset = (cs.drop f.offset).take (P.cellsOf f.type) ++ cs.drop (f.offset + P.cellsOf f.type) := by
        rw [← List.drop_drop, List.take_append_drop]
      rw [e, List.flatten_cons]
      exact hT.app c

theorem weightsAll_mem' {e : TypeId} : ∀ {l : List (DataW H)} {d : DataW H}, d ∈ l → ∀ n ∈ d.weights P e, n ∈ DataW.weightsAll P e l
  | a :: l, d, h, n, hn => by
    unfold DataW.weightsAll
    rcases List.mem_cons.1 h with rfl | h
    · exact List.mem_append_left _ hn
    · exact List.mem_append_right _ (weightsAll_mem' h n hn)
theorem trod_tree : ∀ (n : Nat) {fuel : Nat} {t : TypeId} {cs : List Value} {x : DataW H × List MemPlace}, treeTy P n t = true → DataW.trod enc P w base sp held fuel t cs = some x → (∀ m ∈ x.1.weights P t, m ≤ reachBytes) →
    ∃ ts, WT P t ts ∧ TRs (memOf w) ts cs
  | 0, _, _, _, _, ht, _, _ => by simp [treeTy] at ht
  | n + 1, fuel, t, cs, x, ht, h, hwt => by
    unfold treeTy at ht
    split at ht
    · rename_i hu
      obtain ⟨b, rfl, _⟩ := DataW.trod_bool hu h
      exact ⟨_, .bool hu b, TRs.one (.lit _ rfl)⟩
    · rename_i k hu
      obtain ⟨v, rfl, _, hw⟩ := DataW.trod_int hu h
      exact ⟨_, .int hu v hw, TRs.one (.lit _ rfl)⟩
    · rename_i hu
      obtain ⟨s, rfl, rfl, hs⟩ := DataW.trod_string hu h
      refine ⟨_, .str hu s ?_, TRs.one (.lit _ rfl)⟩
      have := hwt s.data.toList.length (by simp [DataW.weights])
      have e : s.data.toList.length = s.size := by cases s; rfl
      omega
    · rename_i e hu
      simp only [Bool.and_eq_true, decide_eq_true_eq] at ht
      obtain ⟨hk, he⟩ := ht
      rcases DataW.trod_slice hu h with ⟨rfl, _⟩ | ⟨a, len, cap, elems, rest, m, rfl, rfl, rfl, _, hlc, hcm, hel, hx, _⟩
      · exact ⟨[.sl (P.cellsOf e) false []], .sl hu [] (by simp) (fun x hx => by cases hx), TRs.one (.nil _ _ _ _ (by simp))⟩
      · have hex : ∀ i, i < len → ∃ ts, WT P e ts ∧ ts.length = P.cellsOf e ∧ ∀ j y, ts[j]? = some y → ∃ v, w.cell? ((a.add (i * P.cellsOf e)).add j) = some v ∧ TR (memOf w) y v := fun i hi => by
          have h0 := hx i hi
          rw [List.getElem?_eq_getElem (by omega)] at h0
          obtain ⟨cs, h1, h2⟩ := Option.bind_eq_some_iff.1 h0
          obtain ⟨l1, l2⟩ := cells_get h1
          obtain ⟨ts, a1, a2⟩ := trod_tree n he h2 (fun m hm => hwt m (by
            simp only [DataW.weights, hu, List.mem_cons, List.mem_append]
            exact .inr (.inl (weightsAll_mem' (List.mem_map_of_mem (List.getElem_mem _)) m hm))))
          refine ⟨ts, a1, a2.1.trans l1, fun j y hj => ?_⟩
          have hlt : j < cs.length := by rw [← a2.1]; exact (List.getElem?_eq_some_iff.1 hj).1
          refine ⟨cs[j], by rw [l2 j (by omega), List.getElem?_eq_getElem hlt], ?_⟩
          have := a2.2 j y hj
          simpa [List.getD_eq_getElem?_getD, hlt] using this
        obtain ⟨es, hlen, hes⟩ := exists_list len hex
        have hroom : es.length * P.bytesOf e ≤ reachBytes := by
          have h0 := hwt ((elems.map (·.1)).length * P.bytesOf e + (rest.map (·.1)).length * P.bytesOf e) (by
            simp only [DataW.weights, hu, List.mem_cons]
            exact .inl (by rw [Nat.add_mul]))
          rw [List.length_map, hel, ← hlen] at h0
          omega
        have hmem : ∀ x ∈ es, WT P e x ∧ x.length = P.cellsOf e := fun x hx => by
          obtain ⟨i, hi⟩ := List.getElem?_of_mem hx
          exact ⟨(hes i x hi).1, (hes i x hi).2.1⟩
        refine ⟨[.sl (P.cellsOf e) false es], .sl hu es hroom (fun x hx => (hmem x hx).1), TRs.one ?_⟩
        cases hes0 : es with
        | nil =>
          have : len = 0 := by rw [← hlen, hes0]; rfl
          subst this
          exact .nil _ _ _ _ (by simp)
        | cons e0 er =>
          rw [← hes0]
          have hspot : a.spot = none := by
            have := (hes 0 e0 (by rw [hes0]; rfl))
            have hl0 : 0 < e0.length := by rw [this.2.1]; exact hk
            obtain ⟨v, hv, _⟩ := this.2.2 0 e0[0] (List.getElem?_eq_getElem hl0)
            simp only [Nat.zero_mul] at hv
            have e1 : (a.add 0).add 0 = a := by simp [Addr.add]
            rw [e1] at hv
            exact (cell_mem hv).2
          have hadd : ∀ i j, ((a.add i).add j).block = a.block ∧ ((a.add i).add j).off = a.off + i + j := fun i j => by
            unfold Addr.add
            by_cases h1 : i = 0 <;> by_cases h2 : j = 0 <;> simp [h1, h2]
          have hcell : ∀ i x j y, es[i]? = some x → x[j]? = some y → ∃ v, (memOf w).cell a.block (a.off + i * P.cellsOf e + j) = some v ∧ TR (memOf w) y v := fun i x j y hi hj => by
            obtain ⟨v, hv, hT⟩ := (hes i x hi).2.2 j y hj
            have := (cell_mem hv).1
            rw [(hadd _ _).1, (hadd _ _).2] at this
            exact ⟨v, this, hT⟩
          have ea : a = ⟨a.block, a.off, none⟩ := by cases a; simp_all
          rw [← hlen, ea]
          refine .sl _ _ _ _ _ _ (fun i j => ((memOf w).cell a.block (a.off + i * P.cellsOf e + j)).getD undef) (by simp) (by omega) (fun x hx => (hmem x hx).2) (fun i x j y hi hj => ?_) (fun i x j y hi hj => ?_)
          · obtain ⟨v, hv, _⟩ := hcell i x j y hi hj
            rw [hv]; rfl
          · obtain ⟨v, hv, hT⟩ := hcell i x j y hi hj
            rw [hv]; exact hT
    · rename_i fs hu
      simp only [Bool.and_eq_true, decide_eq_true_eq] at ht
      obtain ⟨⟨hs, ha⟩, hc⟩ := ht
      obtain ⟨xs, m, rfl, rfl, hl, hxl, hx⟩ := DataW.trod_struct hu h
      have hf : ∀ (i : Nat) (f : Field), fs.toList[i]? = some f → ∃ p, WT P f.type p ∧ TRs (memOf w) p ((cs.drop f.offset).take (P.cellsOf f.type)) := fun i f hi => by
        have hi' : fs[i]? = some f := by simpa using hi
        have hlt : i < fs.size := (Array.getElem?_eq_some_iff.1 hi').1
        have := hx i f hi'
        rw [List.getElem?_eq_getElem (by omega)] at this
        exact trod_tree n (List.all_eq_true.1 ha f (List.mem_of_getElem? hi)) this (fun m hm => hwt m (by
          simp only [DataW.weights, hu]
          exact DataW.weights_mem_each (j := i) (t := f.type) (d := xs[i].1) (by simp [hi']) (by simp [show i < xs.length by omega]) m hm))
      obtain ⟨ps, a, b, c⟩ := side_tree fs.toList 0 hs (by rw [hl, hc]; simp) hf
      exact ⟨_, .struct hu ps (by simpa using a) (fun i f p h1 h2 => b i f p (by simpa using h1) h2), by simpa using c⟩
    · cases ht
end

structure SameW (w w' : World) : Prop where
  os : w'.os = w.os
  tape : w'.tape = w.tape
  output : w'.output = w.output
  size : w.heap.size ≤ w'.heap.size
  block : ∀ b, b < w.heap.size → w'.heap[b]? = w.heap[b]?
theorem SameW.kept {w w' : World} (h : SameW w w') (may : MemPlace → Prop) : w.keptBut w' may := by
  refine ⟨h.os, h.output, fun i hi => ?_⟩
  rw [h.block i hi]
  split
  · rename_i h1 h2
    rw [h1] at h2; cases h2
    exact ⟨rfl, rfl, rfl, fun _ _ => rfl⟩
  · rename_i h1 h2
    rw [h1] at h2; cases h2
    exact .inr ⟨rfl, rfl⟩
  · rfl
theorem SameW.at {w w' : World} (h : SameW w w') {p : MemPlace} (hp : p.block < w.heap.size) : w.sameAt w' p := by
  cases p with
  | cell b off =>
    show w'.cell? _ = w.cell? _
    unfold World.cell?
    rw [h.block b hp]
  | map b => exact h.block b hp
theorem SameW.frozen {w w' : World} (h : SameW w w') {a : Addr} (hp : a.block < w.heap.size) : w'.frozen? a = w.frozen? a := by
  unfold World.frozen?
  rw [h.block _ hp]

theorem calls_of_valid {L : Lg} {f : FuncId} {vs : List V} {x : Value} {ob' : OT} (hv : Valid L f vs [] (vlit x) ob') {W : World} {args : Array Value} (hg : Glob L.γ (memOf W)) (hl : vs.length = args.size)
    (ha : ∀ j c, vs[j]? = some c → VR (memOf W) (fun _ => none) c (args.getD j undef)) : Calls L.P f args W fun e W' => e = .returned x ∧ SameW W W' := by
  have I : Inv (FB (fun _ => none) []) W.heap.size W (memOf W) (fun _ => none) [] :=
    ⟨fun b y h => h, fun o y h => by simp [getO] at h, fun o o' y y' b h => by simp [getO] at h, fun o y b h => by simp [getO] at h, fun o y b h => by simp [getO] at h, fun o g h => by cases h⟩
  refine (hv.2.2 W (memOf W) (fun _ => none) args I hg hl ha).mono ?_
  rintro e w' ⟨r, M', G', rfl, _, _, hr, _, fr, _⟩
  refine ⟨by rw [lit_is hr], fr.os, fr.tape, fr.output, fr.size, fun b hb => fr.block b hb ?_⟩
  rintro ⟨o, y, h, _⟩
  simp [getO] at h

section
variable {H : Type} {enc : TypeId × Value → H} {P : Program}
theorem side_off : ∀ (fs : List Field) (n : Nat), sideBy P n fs = true → ∀ (j : Nat) (f : Field), fs[j]? = some f → f.offset = n + ((fs.take j).map fun f => P.cellsOf f.type).sum
  | [], _, _, j, f, h => by simp at h
  | g :: r, n, hs, j, f, h => by
    simp only [sideBy, Bool.and_eq_true, beq_iff_eq] at hs
    cases j with
    | zero => simp at h; subst h; simpa using hs.1
    | succ j =>
      have := side_off r _ hs.2 j f (by simpa using h)
      simp only [List.take_succ_cons, List.map_cons, List.sum_cons]
      omega
theorem tree_kids : Kids P (fun t => ∃ n, treeTy P n t = true) where
  pointer := fun {t e} ⟨n, h⟩ hu => by cases n <;> simp [treeTy, hu] at h
  slice := fun {t e} ⟨n, h⟩ hu => by
    cases n with
    | zero => simp [treeTy] at h
    | succ n => simp [treeTy, hu] at h; exact ⟨n, h.2⟩
  array := fun {t e n'} ⟨n, h⟩ hu => by cases n <;> simp [treeTy, hu] at h
  struct := fun {t fs} ⟨n, h⟩ hu => by
    cases n with
    | zero => simp [treeTy] at h
    | succ n =>
      simp only [treeTy, hu, Bool.and_eq_true, decide_eq_true_eq] at h
      exact ⟨fun f hf => ⟨n, List.all_eq_true.1 h.1.2 f hf⟩, h.2, fun j f hj => by simpa using side_off fs.toList 0 h.1.1 j f hj⟩
  map := fun {t k e} ⟨n, h⟩ hu => by cases n <;> simp [treeTy, hu] at h
theorem tree_pos : ∀ t e, (∃ n, treeTy P n t = true) → P.underlying t = some (.slice e) → 0 < P.cellsOf e := fun t e ⟨n, h⟩ hu => by
  cases n with
  | zero => simp [treeTy] at h
  | succ n => simp [treeTy, hu] at h; exact h.1

theorem trodAll_same {w w' : World} {sp : Nat → Bool} (hs : SameW w w') : ∀ {ts : List TypeId} {vs : List Value} {ds : List (DataW H)} {ps : List MemPlace}, (∀ t ∈ ts, ∃ n, treeTy P n t = true) →
    DataW.TrodAll enc P w 0 (fun _ => true) true ts vs ds ps → (∀ p ∈ ps, p.block < w.heap.size) → (∀ p ∈ ps, sp p.block = true) → DataW.TrodAll enc P w' 0 sp true ts vs ds ps
  | [], vs, ds, ps, _, h, _, _ => by
    obtain ⟨rfl, rfl, rfl⟩ := trodAll_nil h
    exact rfl
  | t :: ts, vs, ds, ps, ht, h, hlt, hsp => by
    obtain ⟨v, vs', d, ds', p, q, rfl, rfl, rfl, h1, h2⟩ := trodAll_cons h
    obtain ⟨n, hn⟩ := DataW.Trod.respare (spare' := sp) tree_kids tree_pos (ht t (by simp)) h1 (fun x hx => hsp x (by simp [hx]))
    exact trodAll_cons_mk ⟨n, DataW.trod_carry n _ _ _ hn (fun x hx => hs.at (hlt x (by simp [hx])))⟩ (trodAll_same hs (fun x hx => ht x (by simp [hx])) h2 (fun x hx => hlt x (by simp [hx])) (fun x hx => hsp x (by simp [hx])))
end


theorem law_contract {L : Lg} {H : Type} {enc : TypeId × Value → H} {f : FuncId} {fn : Func} {s : ChangeSpec} {tb : TypeId} (hs : s.vars = []) (hp : ∀ t ∈ fn.params.toList, ∃ n, treeTy L.P n t = true) (hr : fn.resultTypes = #[tb])
    (hb : L.P.underlying tb = some .bool) (hok : ∀ W' : World, ∀ (j : Nat) (t : TypeId) (r : Value), fn.resultTypes[j]? = some t → ((Value.bool true).resultList fn.resultTypes.size)[j]? = some r → Value.okWide L.P W' .any 0 t r)
    {W : World} {args : Array Value} {ds gs : List (DataW H)} {before : List MemPlace} (hfn : s.fn H (ds ++ gs) = { results := [.lit (.bool true)], args := ds })
    (hW : DataW.Whole enc L.P fn.params.toList s.vars false W args.toList ds gs before) {vs : List V} {ob' : OT} (hv : Valid L f vs [] (vbool true) ob') (hg : Glob L.γ (memOf W)) (hl : vs.length = args.size)
    (ha : ∀ j c, vs[j]? = some c → VR (memOf W) (fun _ => none) c (args.getD j undef)) {fresh handsOn again : Bool} :
    Calls L.P f args W fun e W' => ∃ v, e = .returned v ∧ s.post enc L.P fn false fresh handsOn again W args v W' := by
  refine (calls_of_valid hv hg hl ha).mono ?_
  rintro e W' ⟨rfl, hS⟩
  refine ⟨_, rfl, ?_⟩
  have hlt := hW.lt
  have hres : ∀ (b : Nat) (sp : Nat → Bool) (hd : Bool), DataW.TrodAll enc L.P W' b sp hd fn.resultTypes.toList ((Value.bool true).resultList fn.resultTypes.size) (s.fn H (ds ++ gs)).results [] := fun b sp hd => by
    rw [hfn, hr]
    exact ⟨[], [], ⟨1, by simp [DataW.trod, hb, Value.cells]⟩, rfl, rfl⟩
  have hW' := hW
  obtain ⟨pa, pv, hA, hV, rfl, hz, hn⟩ := hW'
  rw [hs] at hV
  obtain ⟨rfl, rfl⟩ := trodVars_none hV
  have hargs : ∀ sp : Nat → Bool, (∀ p ∈ pa ++ [], sp p.block = true) → DataW.TrodAll enc L.P W' 0 sp true fn.params.toList args.toList (s.fn H (ds ++ [])).args pa := fun sp hsp => by
    rw [hfn]
    exact trodAll_same hS hp hA (fun p hp => hlt p (by simp [hp])) (fun p hp => hsp p (by simp [hp]))
  have hvars : ∀ sp : Nat → Bool, DataW.TrodVars enc L.P W' sp s.vars (s.fn H (ds ++ [])).vars [] := fun sp => by
    rw [hfn, hs]; rfl
  refine ⟨ds, [], pa ++ [], [], pa, [], hW, hres _ _ _, hargs _ (fun p hp => by simpa using hlt p hp), hvars _, hS.kept _, fun _ => ?_⟩
  refine ⟨hok W', _, _, ([] ++ pa) ++ [], ⟨[] ++ pa, [], trodAll_append (hargs _ (fun _ _ => rfl)) (hres _ _ _), hvars _, rfl, ?_, ?_⟩, ?_⟩
  · intro b off hp
    have hp' : MemPlace.cell b off ∈ pa ++ [] := by simpa using hp
    rw [hS.frozen (a := ⟨b, off, none⟩) (hlt _ hp')]
    exact hz b off hp'
  · intro ha; cases ha
  · intro p hp _; simpa using hp

theorem cells_one {v : Value} (h : ∀ cs, v ≠ .agg cs) : v.cells = #[v] := by
  cases v <;> first | rfl | exact absurd rfl (h _)
section
variable {H : Type} {enc : TypeId × Value → H} {P : Program} {w : World} {base0 base : Nat} {sp : Nat → Bool} {held : Bool} {G : Gh}
theorem arg_one {t : TypeId} {v : Value} {d : DataW H} {ps : List MemPlace} {n : Nat} (hn : treeTy P n t = true) (hna : ∀ cs, v ≠ .agg cs) (h : DataW.Trod enc P w base sp held t v d ps) (hwt : ∀ m ∈ d.weights P t, m ≤ reachBytes) :
    ∃ x, WT P t [x] ∧ VR (memOf w) G (.tr x) v := by
  obtain ⟨fuel, h⟩ := h
  obtain ⟨ts, a, b⟩ := trod_tree n hn h hwt
  rw [cells_one hna] at b
  have hl : ts.length = 1 := b.1
  obtain ⟨x, rfl⟩ := List.length_eq_one_iff.1 hl
  exact ⟨x, a, .tr (by simpa using b.2 0 x rfl)⟩
theorem arg_agg {t : TypeId} {cs : Array Value} {d : DataW H} {ps : List MemPlace} {n : Nat} (hn : treeTy P n t = true) (h : DataW.Trod enc P w base sp held t (.agg cs) d ps) (hwt : ∀ m ∈ d.weights P t, m ≤ reachBytes) :
    ∃ ts, WT P t ts ∧ VR (memOf w) G (.agg (ts.map V.tr)) (.agg cs) := by
  obtain ⟨fuel, h⟩ := h
  obtain ⟨ts, a, b⟩ := trod_tree n hn h hwt
  have hc : (Value.agg cs).cells = cs := rfl
  rw [hc] at b
  refine ⟨ts, a, .agg _ _ (by simpa using b.1) (fun j c hj => ?_)⟩
  simp only [List.getElem?_map, Option.map_eq_some_iff] at hj
  obtain ⟨x, hx, rfl⟩ := hj
  have := b.2 j x hx
  simp only [List.getD_eq_getElem?_getD, Array.getElem?_toList] at this
  exact .tr (by simpa using this)
theorem ok_notAgg {r : Reach} {t : TypeId} {v : Value} {td : TypeDesc} (hu : P.underlying t = some td) (hd : aggD td = false) (h : Value.okWide P w r base0 t v) (hk : td = .bool ∨ (∃ k, td = .int k) ∨ td = .string ∨ ∃ e, td = .slice e) : ∀ cs, v ≠ .agg cs := by
  rintro cs rfl
  rcases hk with rfl | ⟨k, rfl⟩ | rfl | ⟨e, rfl⟩ <;> simp [Value.okWide, Cell.okWide, Cell.ok, hu] at h
theorem ok_agg {r : Reach} {t : TypeId} {v : Value} {fs : Array Field} (hu : P.underlying t = some (.struct fs)) (h : Value.okWide P w r base0 t v) : ∃ cs, v = .agg cs := by
  simp only [Value.okWide, hu] at h
  obtain ⟨cs, h, _⟩ := h
  exact ⟨cs, h⟩
end
/-! inversions -/
section
variable {P : Program} {t e : TypeId} {ts : List Tr}
theorem WT.int_inv {k : IntKind} (hu : P.underlying t = some (.int k)) (h : WT P t ts) : ∃ n, ts = [.lit (.int k n)] ∧ (Lit.int k n).wf = true := by
  cases h with
  | int h n hn => rw [hu] at h; cases h; exact ⟨n, rfl, hn⟩
  | bool h | str h | sl h | struct h => rw [hu] at h; cases h
theorem WT.sl_inv (hu : P.underlying t = some (.slice e)) (h : WT P t ts) : ∃ es, ts = [.sl (P.cellsOf e) false es] ∧ es.length * P.bytesOf e ≤ reachBytes ∧ ∀ x ∈ es, WT P e x := by
  cases h with
  | sl h es hl he => rw [hu] at h; cases h; exact ⟨es, rfl, hl, he⟩
  | int h | bool h | str h | struct h => rw [hu] at h; cases h
theorem WT.struct_inv {fs : Array Field} (hu : P.underlying t = some (.struct fs)) (h : WT P t ts) : ∃ ps : List (List Tr), ts = ps.flatten ∧ ps.length = fs.size ∧ ∀ (i : Nat) (f : Field) (p : List Tr), fs[i]? = some f → ps[i]? = some p → WT P f.type p := by
  cases h with
  | struct h ps hl hp => rw [hu] at h; cases h; exact ⟨ps, rfl, hl, hp⟩
  | int h | bool h | str h | sl h => rw [hu] at h; cases h
theorem map_inv {α : Type} {R : List Tr → Prop} {enc : α → List Tr} {ok : α → Prop} (h : ∀ x, R x → ∃ a, x = enc a ∧ ok a) : ∀ {es : List (List Tr)}, (∀ x ∈ es, R x) → ∃ l : List α, es = l.map enc ∧ l.length = es.length ∧ ∀ a ∈ l, ok a
  | [], _ => ⟨[], rfl, rfl, fun a ha => by cases ha⟩
  | x :: es, hx => by
    obtain ⟨a, rfl, ha⟩ := h x (hx x (by simp))
    obtain ⟨l, rfl, hl, h2⟩ := map_inv h (es := es) (fun y hy => hx y (by simp [hy]))
    exact ⟨a :: l, rfl, by simp, fun b hb => by
      rcases List.mem_cons.1 hb with rfl | hb
      · exact ha
      · exact h2 b hb⟩
end
end Go.Ab
end
section
/- Short words for what is said often. -/
namespace Go.Ab
open Go
theorem vS {m : Nat} {ρ : List (Nat × Nat)} {v : V} (h : Bd m v := by simp) : VM m ρ v v := VM.self h
theorem nF {b : Bool} (h : b = false) : ¬ b = true := ne_true_of_eq_false h
theorem sI {α : Type} {a b : α} (h : some a = some b) : a = b := Option.some.inj h
end Go.Ab
end
