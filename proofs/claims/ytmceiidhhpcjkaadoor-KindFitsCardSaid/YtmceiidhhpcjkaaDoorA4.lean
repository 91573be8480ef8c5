/- A machine that carries out the translated code on data, and why it is right, part 4 -/
import Derived.Laws.AppendOwn
import Derived.Laws.CopyRow
import Derived.Test.YtmceiidhhpcjkaaDoorA3
set_option linter.all false
section
/- Readings are sound. -/
namespace Go.Ab
open Go

theorem TR.const (M : Mem) (v : Value) (h : oneV v = true) : TR M (constT v) v := by
  unfold constT
  split
  · exact .nil _ _ _ _ (fun _ => rfl)
  · exact .lit _ h
theorem VR.constC (M : Mem) (G : Gh) (v : Value) : VR M G (constC v) v := by
  unfold Ab.constC
  split
  · rename_i h; exact .tr (TR.const M v h)
  · exact .junk v
theorem VR.constV (M : Mem) (G : Gh) (v : Value) : VR M G (constV v) v := by
  unfold Ab.constV
  split
  · rename_i cs
    refine .agg _ _ (by simp) fun j c hc => ?_
    simp only [List.getElem?_map, Option.map_eq_some_iff] at hc
    obtain ⟨x, hx, rfl⟩ := hc
    have : cs.getD j undef = x := by simp at hx; simp [hx]
    rw [this]
    exact VR.constC M G x
  · exact VR.constC M G _

theorem cell_of_mem {w : World} {M : Mem} (hm : ∀ b x, M b = some x → w.heap[b]? = some x) {b off : Nat} {v : Value} (h : M.cell b off = some v) : w.cell? ⟨b, off, none⟩ = some v := by
  unfold Mem.cell at h
  cases hM : M b with
  | none => simp [hM] at h
  | some x =>
    rw [hM] at h
    have := hm b x hM
    unfold World.cell?
    rw [this]
    cases x <;> simp_all

theorem rowA_off {ri : RI} {off : Nat} {a : Option Addr} (h : rowA ri off a) (hc : off < ri.cap) : ∃ b st, ri.blk = some (b, st) ∧ a = some ⟨b, st + off * ri.k, none⟩ := h (by omega)

section
variable {F : Nat → Prop} {n0 : Nat} {w : World} {M : Mem} {G : Gh} {ob : OT}

def Reads (w : World) (M : Mem) (k : Nat) (es : List (List Tr)) (a : Option Addr) : Prop :=
  es ≠ [] → ∃ b o, a = some ⟨b, o, none⟩ ∧ ∀ i e j t, es[i]? = some e → e[j]? = some t → ∃ x, w.cell? ⟨b, o + i * k + j, none⟩ = some x ∧ TR M t x

theorem Reads.cut {k : Nat} {es : List (List Tr)} {a : Option Addr} (h : Reads w M k es a) (lo n m : Nat) (hl : lo + n ≤ es.length) (hm : lo + n ≤ m) : Reads w M k ((es.drop lo).take n) (if m = lo then a else a.map (·.add (lo * k))) := by
  intro hne
  have hn : 0 < n ∧ es ≠ [] := by
    refine ⟨?_, ?_⟩
    · rcases Nat.eq_zero_or_pos n with h0 | h0
      · subst h0; simp at hne
      · exact h0
    · intro h0; subst h0; simp at hne
  obtain ⟨b, o, rfl, hc⟩ := h hn.2
  have hml : m ≠ lo := by omega
  rw [if_neg hml]
  have hadd : (⟨b, o, none⟩ : Addr).add (lo * k) = ⟨b, o + lo * k, none⟩ := by unfold Addr.add; split <;> simp_all
  refine ⟨b, o + lo * k, by simp [hadd], fun i e j t he ht => ?_⟩
  have hi : i < n := by
    have := (List.getElem?_eq_some_iff.1 he).1
    simp at this; omega
  have he' : es[lo + i]? = some e := by rw [List.getElem?_take_of_lt hi, List.getElem?_drop] at he; exact he
  obtain ⟨x, hx, hT⟩ := hc (lo + i) e j t he' ht
  refine ⟨x, ?_, hT⟩
  have e1 : o + lo * k + i * k + j = o + (lo + i) * k + j := by rw [Nat.add_mul]; omega
  rw [e1]; exact hx

theorem rd_sound (I : Inv F n0 w M G ob) {v : V} {r : Value} (h : VR M G v r) : ∀ {k : Nat} {es : List (List Tr)}, rdS (getO ob) v = some (k, es) →
    ∃ a c, r = .slice a es.length c ∧ es.length ≤ c ∧ (isFull v = true → c = es.length) ∧ (∀ e ∈ es, e.length = k) ∧ Reads w M k es a := by
  induction h with
  | tr ht =>
    intro k es hr
    cases ht with
    | lit x h1 => simp [rdS] at hr
    | nil k' full a c hc =>
      simp [rdS] at hr
      obtain ⟨rfl, rfl⟩ := hr
      exact ⟨a, c, rfl, Nat.zero_le _, fun hf => hc hf, by simp, fun hne => absurd rfl hne⟩
    | sl k' full es' b off c f hc hle hk hm ht =>
      simp [rdS] at hr
      obtain ⟨rfl, rfl⟩ := hr
      exact ⟨_, c, rfl, hle, fun hf => hc hf, hk, fun _ => ⟨b, off, rfl, fun i e j t he ht' => ⟨f i j, cell_of_mem I.mem (hm i e j t he ht'), ht i e j t he ht'⟩⟩⟩
  | row o ver off len f ri a hg hv hl ha =>
    intro k es hr
    simp only [rdS] at hr
    cases ho : getO ob o with
    | none => simp [ho] at hr
    | some x =>
      cases x with
      | box cs => simp [ho] at hr
      | iter s p => simp [ho] at hr
      | mp _ _ => simp [ho] at hr
      | mit _ _ _ => simp [ho] at hr
      | row k' v' es' =>
        simp only [ho] at hr
        split at hr
        · rename_i hc
          obtain ⟨rfl, hc⟩ := hc
          simp only [Option.some.injEq, Prod.mk.injEq] at hr
          obtain ⟨rfl, rfl⟩ := hr
          have hlen : ((es'.drop off).take len).length = len := by simp; omega
          refine ⟨a, ri.cap - off, by rw [hlen], by rw [hlen]; omega, fun hf => by simp [isFull] at hf, ?_, ?_⟩
          · intro e he
            have hmem : e ∈ es' := List.mem_of_mem_drop (List.mem_of_mem_take he)
            cases I.obj o _ ho with
            | row _ _ _ f' ri' b st arr T hg' hv' hmax hk' hb hw hcap hle hee hcc => exact hee e hmem
            | nil => simp at hmem
          · cases I.obj o _ ho with
            | nil => intro hne; simp at hne
            | row _ _ _ f' ri' b st arr T hg' hv' hmax hk' hb hw hcap hle hee hcc =>
              intro hne
              rw [hg] at hg'
              cases hg'
              rw [hv] at hv'
              cases hv'
              have hlp : 0 < len := by
                rcases Nat.eq_zero_or_pos len with h0 | h0
                · subst h0; simp at hne
                · exact h0
              obtain ⟨b', st', hb', rfl⟩ := rowA_off ha (by omega)
              rw [hb] at hb'
              cases hb'
              refine ⟨b, st + off * ri.k, rfl, fun i e j t he ht => ?_⟩
              have hi : i < len := by
                have := (List.getElem?_eq_some_iff.1 he).1
                simp at this; omega
              rw [List.getElem?_take_of_lt hi, List.getElem?_drop] at he
              have hej : j < e.length := (List.getElem?_eq_some_iff.1 ht).1
              have hek : e.length = ri.k := by rw [hk']; exact hee e (List.mem_of_getElem? he)
              have hT := hcc (off + i) e j t he ht
              have hlt : off + i < es'.length := (List.getElem?_eq_some_iff.1 he).1
              have hidx : st + (off + i) * k' + j < arr.size := by
                have h1 : (off + i + 1) * k' ≤ ri.cap * k' := Nat.mul_le_mul_right _ (by omega)
                rw [Nat.add_mul, Nat.one_mul] at h1
                omega
              refine ⟨arr.getD (st + (off + i) * k' + j) undef, ?_, hT⟩
              have e1 : st + off * ri.k + i * k' + j = st + (off + i) * k' + j := by rw [hk', Nat.add_mul]; omega
              rw [e1]
              simp [World.cell?, hw, hidx]
        · simp at hr
  | sub k' v lo n full a a' n0' c0 m h hlo hm hm2 hf ha ih =>
    intro k es hr
    simp only [rdS] at hr
    cases hv : rdS (getO ob) v with
    | none => simp [hv] at hr
    | some p =>
      obtain ⟨k2, es2⟩ := p
      simp only [hv] at hr
      split at hr
      · rename_i hc
        simp only [Option.some.injEq, Prod.mk.injEq] at hr
        obtain ⟨rfl, rfl⟩ := hr
        obtain ⟨a2, c2, he, hle, hful, hk, hrd⟩ := ih hv
        cases he
        have hlen : ((es2.drop lo).take n).length = n := by simp; omega
        refine ⟨_, m - lo, by rw [hlen], by rw [hlen]; omega, fun hff => by rw [hlen, hf hff]; omega, fun e he => hk e (List.mem_of_mem_drop (List.mem_of_mem_take he)), ?_⟩
        rcases hc.2 with hkk | hn
        · subst hkk
          rcases Nat.eq_zero_or_pos n with h0 | h0
          · intro hne; exact absurd (by rw [List.length_eq_zero_iff.1 (hlen.trans h0)]) hne
          · have hne : m ≠ lo := by omega
            have := hrd.cut lo n m hc.1 hm
            rw [if_neg hne] at this
            rw [ha hne]
            exact this
        · have : es2 = [] := List.length_eq_zero_iff.1 hn
          subst this
          intro hne; simp at hne
      · simp at hr
  | agg => intro k es hr; simp [rdS] at hr
  | ref => intro k es hr; simp [rdS] at hr
  | iter => intro k es hr; simp [rdS] at hr
  | el => intro k es hr; simp [rdS] at hr
  | glob => intro k es hr; simp [rdS] at hr
  | fn => intro k es hr; simp [rdS] at hr
  | tup => intro k es hr; simp [rdS] at hr
  | mp => intro k es hr; simp [rdS] at hr
  | junk => intro k es hr; simp [rdS] at hr

theorem rdK_sound (I : Inv F n0 w M G ob) {v : V} {r : Value} (h : VR M G v r) {k : Nat} {es : List (List Tr)} (hr : rdK (getO ob) k v = some es) :
    ∃ a c, r = .slice a es.length c ∧ es.length ≤ c ∧ (isFull v = true → c = es.length) ∧ (∀ e ∈ es, e.length = k) ∧ Reads w M k es a := by
  unfold rdK at hr
  split at hr
  · rename_i k' es' hs
    split at hr
    · rename_i hk
      simp only [Option.some.injEq] at hr
      subst hr
      obtain ⟨a, c, h1, h2, h3, h4, h5⟩ := rd_sound I h hs
      rcases hk with hk | hk
      · subst hk; exact ⟨a, c, h1, h2, h3, h4, h5⟩
      · have : es' = [] := List.length_eq_zero_iff.1 hk
        subst this
        exact ⟨a, c, h1, h2, h3, by simp, fun hne => absurd rfl hne⟩
    · simp at hr
  · simp at hr

theorem oneV_cell {v : Value} (h : oneV v = true) : v.oneCell' = true := by cases v <;> simp_all [oneV, Value.oneCell']

theorem oneC_real (I : Inv F n0 w M G ob) {v : V} {r : Value} (h : VR M G v r) (h1 : oneC (getO ob) v = true) : r.oneCell' = true := by
  unfold oneC isS at h1
  rw [Bool.or_eq_true] at h1
  rcases h1 with h1 | h1
  · obtain ⟨⟨k, es⟩, hp⟩ := Option.isSome_iff_exists.1 h1
    obtain ⟨a, c, rfl, _⟩ := rd_sound I h hp
    rfl
  · cases h with
    | tr ht =>
      cases ht with
      | lit x h2 => exact oneV_cell h2
      | nil => rfl
      | sl => rfl
    | ref => rfl
    | iter => rfl
    | el => rfl
    | glob => rfl
    | fn => rfl
    | agg => simp at h1
    | row => simp at h1
    | sub => simp at h1
    | tup => simp at h1
    | mp => simp at h1
    | junk => simp at h1

theorem cells_of_one {r : Value} (h : r.oneCell' = true) : r.cells = #[r] := by cases r <;> simp_all [Value.oneCell', Value.cells]

theorem VR.cells (I : Inv F n0 w M G ob) {v : V} {r : Value} (h : VR M G v r) (h1 : v.cells.all (oneC (getO ob)) = true) :
    v.cells.length = r.cells.size ∧ (∀ j c, v.cells[j]? = some c → VR M G c (r.cells.getD j undef)) ∧ ∀ x ∈ r.cells, x.oneCell' = true := by
  by_cases hv : ∃ cs, v = .agg cs
  · obtain ⟨cs, rfl⟩ := hv
    cases h with
    | agg _ vs hl hc =>
      refine ⟨hl, hc, fun x hx => ?_⟩
      obtain ⟨j, hj, rfl⟩ := Array.mem_iff_getElem.1 hx
      have hlt : j < cs.length := by have : (V.agg cs).cells.length = cs.length := rfl; simp only [Value.cells] at hj; omega
      have hcj := hc j cs[j] (by simp [hlt])
      have hj' : j < vs.size := hj
      have he : vs.getD j undef = vs[j] := by simp [hj']
      rw [he] at hcj
      exact oneC_real I hcj (List.all_eq_true.1 h1 _ (by simp [V.cells]))
  · have hc : v.cells = [v] := by cases v <;> simp_all [V.cells]
    rw [hc] at h1 ⊢
    simp only [List.all_cons, List.all_nil, Bool.and_true] at h1
    have hr := oneC_real I h h1
    rw [cells_of_one hr]
    refine ⟨rfl, fun j c hjc => ?_, fun x hx => by simp at hx; rw [hx]; exact hr⟩
    cases j with
    | zero => simp at hjc; subst hjc; simpa using h
    | succ j => simp at hjc
end
end Go.Ab
end
