/- A machine that carries out the translated code on data, and why it is right, part 14 -/
import Derived.Laws.IdiomRangeMap
import Derived.Test.YtmceiidhhpcjkaaDoorA13
set_option linter.all false
section
/- A range over a map: any entry that is left may come next. -/
namespace Go.Ab
open Go Go.Pp

theorem run_nextM {P : Program} (w : World) (ty : TypeId) {b bm n : Nat} {seen : List Nat} {es : Array MapEntry} (hb : w.heap[b]? = some (.mapIter (some bm) n seen.toArray n)) (hm : w.heap[bm]? = some (.map es n)) (hold : ∀ x ∈ es.toList, x.born < n) :
    ((∀ e ∈ es.toList, e.born ∈ seen) ∧ (Instr.next (.pointer (some ⟨b, 0, none⟩)) false ty).run P w = .ok (.tuple #[.bool false]) w) ∨
    ∃ e ∈ es.toList, e.born ∉ seen ∧ ∃ d, (Instr.next (.pointer (some ⟨b, 0, none⟩)) false ty).run P w = .ok (.tuple #[.bool true, e.key, e.val]) { w with drawn := d, heap := w.heap.setIfInBounds b (.mapIter (some bm) n (seen ++ [e.born]).toArray n) } := by
  simp only [Instr.next, getObj, Sem.run_bind, Sem.run, hb, hm, Result.andThen, next_test_false seen.toArray es n n hold (Nat.le_refl n), Bool.false_eq_true, if_false]
  have hmem : ∀ x ∈ (Array.filter (fun e => !seen.toArray.contains e.born) es).toList, x.born < n ∧ x ∈ es.toList ∧ x.born ∉ seen := fun x hx => by
    simp at hx
    exact ⟨hold x (by simpa using hx.1), by simpa using hx.1, hx.2⟩
  have hall : (Array.filter (fun e => !seen.toArray.contains e.born) es).size = 0 → ∀ e ∈ es.toList, e.born ∈ seen := fun h0 e he => by
    refine Classical.byContradiction fun hn => ?_
    have : e ∈ Array.filter (fun e => !seen.toArray.contains e.born) es := by simp; exact ⟨by simpa using he, hn⟩
    rw [Array.eq_empty_of_size_eq_zero h0] at this
    simp at this
  generalize Array.filter (fun e => !seen.toArray.contains e.born) es = L at hmem hall ⊢
  have e1 : L.filter (fun x => decide (x.born < n)) = L := Array.filter_eq_self.2 (fun x hx => by simpa using (hmem x (by simpa using hx)).1)
  have e2 : L.filter (fun x => decide (x.born ≥ n)) = #[] := by
    rw [Array.filter_eq_empty_iff]
    intro x hx
    have := (hmem x (by simpa using hx)).1
    simp
    omega
  simp only [e1, e2, Array.append_empty]
  by_cases h0 : L.size = 0
  · left
    refine ⟨hall h0, ?_⟩
    have : L = #[] := Array.eq_empty_of_size_eq_zero h0
    subst this
    simp [choose, Sem.run, Question.forced]
  · right
    have hne : L.isEmpty = false := by simp [Array.isEmpty, h0]
    simp only [hne, Bool.false_eq_true, if_false, Array.empty_append, Array.size_map]
    have hch : ∃ (j d : Nat), j < L.size ∧ (choose (Question.mapNext L.size)).run P w = .ok j { w with drawn := d } := by
      by_cases hf : L.size ≤ 1
      · exact ⟨0, w.drawn, by omega, by simp [choose, Sem.run, Question.forced, hf]⟩
      · exact ⟨_, w.drawn + 1, Nat.mod_lt _ (by omega), by
          simp only [choose, Sem.run, Question.forced, decide_eq_true_eq, hf, if_false, Question.cut]
          rfl⟩
    obtain ⟨j, d, hj, hrun⟩ := hch
    obtain ⟨q1, q2, q3⟩ := hmem L[j] (by simp)
    refine ⟨L[j], q2, q3, d, ?_⟩
    have hset : ∀ (o' : Obj), (setObj b o').run P { w with drawn := d } = .ok () { w with drawn := d, heap := w.heap.setIfInBounds b o' } := fun o' => by
      simp only [setObj, Sem.run, hb]
    simp only [hrun, Array.getElem?_map, Array.getElem?_eq_getElem hj, Option.map_some, Sem.run_bind, hset, Result.andThen]
    simp

section
variable {L : Lg} {X : Cx}
theorem nextM_sound {E : E} {a : Act} {w : World} (R : RelE L X E a w) {o : Oper} {x : Operand} (hop : o.op = .next x false) {i m n : Nat} {seen : List Nat} {ks : List Int} {vs : List V}
    (hx : evO E.slots x = .ref i 0) (ho : getO E.ob i = some (.mit m n seen)) (hm : getO E.ob m = some (.mp ks vs)) (hn : ks.length = n) {K' : Act → World → Prop} {Q : Exit → Act → World → Prop}
    (h1 : ∀ j k v, ks[j]? = some k → vs[j]? = some v → j ∉ seen → ∀ a' w', RelE L X ⟨setSlot E.slots o.dst (.tup [vbool true, vint .i64 k, v]), E.ob.set i (some (.mit m n (seen ++ [j])))⟩ a' w' → K' a' w')
    (h2 : (∀ j, j < n → j ∈ seen) → ∀ a' w', RelE L X ⟨setSlot E.slots o.dst (.tup [vbool false]), E.ob⟩ a' w' → K' a' w') : o.wp L.P a w K' Q := by
  obtain ⟨M, G, R⟩ := R
  have hxv := evO_sound R.slots x
  rw [hx] at hxv
  cases R.inv.obj i _ ho with
  | mit _ _ _ b bm hg hgm hw =>
    cases R.inv.obj m _ hm with
    | mp _ _ b2 es hg2 hw2 hks hbn hl hh =>
      rw [hg2] at hgm; cases hgm
      have hsz : ks.length = es.size := by have := congrArg List.length hks; simpa using this.symm
      have hne : es.size = n := by omega
      rw [hne] at hw2
      have hre : a.eval x = .pointer (some ⟨b, 0, none⟩) := by
        generalize a.eval x = r at hxv
        cases hxv with
        | ref _ _ b' hg' => rw [hg] at hg'; cases hg'
        | iter _ _ b' hg' => rw [hg] at hg'; cases hg'; rfl
      have hborn : ∀ (j : Nat) (hj : j < es.size), es[j].born = j := fun j hj => by
        have := congrArg (fun l => l[j]?) hbn
        simpa [hj] using this
      have hold : ∀ y ∈ es.toList, y.born < n := fun y hy => by
        obtain ⟨j, hj, rfl⟩ := List.mem_iff_getElem.1 hy
        simp at hj
        have := hborn j hj
        simp only [Array.getElem_toList]; omega
      have hexec : execOp a.eval o = (do pure (.value (← Instr.next (a.eval x) false o.type))) := by unfold execOp; rw [hop]
      unfold Oper.wp
      rw [hexec, hre]
      rcases run_nextM (P := L.P) w o.type hw hw2 hold with ⟨q1, q2⟩ | ⟨e, q1, q2, d, q3⟩
      · have : (do pure (Next.value (← Instr.next (.pointer (some ⟨b, 0, none⟩)) false o.type)) : Sem Next).run L.P w = .ok (.value (.tuple #[.bool false])) w := by simp [q2]
        rw [this, Oper.upon_value]
        have hV : VR M G (.tup [vbool false]) (.tuple #[.bool false]) := .tup _ _ rfl (fun j c hj => by
          match j, hj with
          | 0, hj => simp at hj; subst hj; exact .tr (.lit _ rfl))
        obtain ⟨s1, s2⟩ := R.slots.put R.len hV o.dst
        have hdef : (a.put o.dst (.tuple #[.bool false])).defers = [] := by have := R.defers; cases o.dst <;> simpa [Act.put] using this
        refine h2 (fun j hj => ?_) _ _ ⟨M, G, { R with len := s2, slots := s1, defers := hdef }⟩
        have := q1 es[j] (by simp)
        rwa [hborn j (by omega)] at this
      · obtain ⟨j, hj, rfl⟩ := List.mem_iff_getElem.1 q1
        have hj : j < es.size := by simpa using hj
        simp only [Array.getElem_toList] at q2 q3
        have hbj := hborn j hj
        rw [hbj] at q2 q3
        have hkj : ∃ k, ks[j]? = some k ∧ es[j].key = .int .i64 k := by
          have h6 := congrArg (fun l => l[j]?) hks
          simp only [List.getElem?_map] at h6
          have hjk : j < ks.length := by omega
          rw [List.getElem?_eq_getElem (by simpa using hj), List.getElem?_eq_getElem hjk] at h6
          exact ⟨ks[j], List.getElem?_eq_getElem hjk, by simpa using h6⟩
        obtain ⟨k, hk1, hk2⟩ := hkj
        have hjv : j < vs.length := by omega
        have hvv := hh j vs[j] (List.getElem?_eq_getElem hjv)
        have e1 : (es.map (·.val)).getD j undef = es[j].val := by simp [Array.getD_eq_getD_getElem?, hj]
        rw [e1] at hvv
        rw [hk2] at q3
        have hlt : b < w.heap.size := (Array.getElem?_eq_some_iff.1 hw).1
        obtain ⟨I2, F2⟩ := R.inv.writeI (b := b) (y := .mapIter (some bm) n (seen ++ [j]).toArray n) (x' := .mit m n (seen ++ [j])) ho (by simp [blkO, hg]) (.mit m n (seen ++ [j]) b bm hg hg2 (by simp [hlt])) (by simp [blkO, hg])
        have : (do pure (Next.value (← Instr.next (.pointer (some ⟨b, 0, none⟩)) false o.type)) : Sem Next).run L.P w = .ok (.value (.tuple #[.bool true, .int .i64 k, es[j].val])) { w with drawn := d, heap := w.heap.setIfInBounds b (.mapIter (some bm) n (seen ++ [j]).toArray n) } := by simp [q3]
        rw [this, Oper.upon_value]
        have hV : VR M G (.tup [vbool true, vint .i64 k, vs[j]]) (.tuple #[.bool true, .int .i64 k, es[j].val]) := .tup _ _ rfl (fun t c ht => by
          match t, ht with
          | 0, ht => simp at ht; subst ht; exact .tr (.lit _ rfl)
          | 1, ht => simp at ht; subst ht; exact .tr (.lit _ rfl)
          | 2, ht => simp at ht; subst ht; exact hvv)
        obtain ⟨s1, s2⟩ := R.slots.put R.len hV o.dst
        have hdef : (a.put o.dst (.tuple #[.bool true, .int .i64 k, es[j].val])).defers = [] := by have := R.defers; cases o.dst <;> simpa [Act.put] using this
        have R1 : RelE L X ⟨setSlot E.slots o.dst (.tup [vbool true, vint .i64 k, vs[j]]), E.ob.set i (some (.mit m n (seen ++ [j])))⟩ (a.put o.dst (.tuple #[.bool true, .int .i64 k, es[j].val])) { w with heap := w.heap.setIfInBounds b (.mapIter (some bm) n (seen ++ [j]).toArray n) } :=
          ⟨M, G, { R with inv := I2, fr := R.fr.trans F2, len := s2, slots := s1, defers := hdef, low := by simpa using R.low, size := by simpa using R.size }⟩
        exact h1 j k vs[j] hk1 (List.getElem?_eq_getElem hjv) q2 _ _ (R1.drawn d)

end
section
variable {L : Lg} {m n : Nat} {as : AS} {ob : OT} {Q : KC}
theorem X_nextM (O : Ok L) {id : Nat} {o : Oper} {r : List Oper} {x : Operand} (hop : o.op = .next x false) (hg : o.guard = none) {i mm c : Nat} {seen : List Nat} {ks : List Int} {vs : List V}
    (hx : evA n as x = .ref i 0) (ho : getO ob i = some (.mit mm c seen)) (hm : getO ob mm = some (.mp ks vs)) (hn : ks.length = c)
    (h1 : ∀ j k v, ks[j]? = some k → vs[j]? = some v → j ∉ seen → run L n (o :: r) r (ins o.dst (.tup [vbool true, vint .i64 k, v]) as) (ob.set i (some (.mit mm c (seen ++ [j])))) Q)
    (h2 : (∀ j, j < c → j ∈ seen) → run L n (o :: r) r (ins o.dst (.tup [vbool false]) as) ob Q) : X L m n (.region id ⟨o :: r⟩ false) as ob Q := by
  intro Xc a w hX R
  refine wp_region_list ?_
  have hq : ∀ E a w, liftQ n Q .normal E → RelE L Xc E a w → (∃ E', liftQ n Q .normal E' ∧ RelE L Xc E' a w) := fun E a w h h' => ⟨E, h, h'⟩
  show wpList L.P _ _ (o :: r) a w
  simp only [wpList]
  rw [if_pos (by unfold Region.wanted; rw [hg])]
  left
  refine nextM_sound (E := ⟨mkS n as, ob⟩) R hop (by rw [evO_mkS]; exact hx) ho hm hn (fun j k v q1 q2 q3 a' w' R' => ?_) (fun q a' w' R' => ?_)
  · have := run_sound (h1 j k v q1 q2 q3)
    rw [← setSlot_mkS] at this
    exact ops_sound O (ops := ⟨o :: r⟩) hq r _ a' w' R' this
  · have := run_sound (h2 q)
    rw [← setSlot_mkS] at this
    exact ops_sound O (ops := ⟨o :: r⟩) hq r _ a' w' R' this
end
end Go.Ab
end
section
/- Maps beside plain rows of pairs. -/
namespace Go.Ab
open Go Go.Pp

def sndV {α : Type} (g : α → V) (p : Int × α) : V := g p.2
theorem findK_map {α : Type} (l : List (Int × α)) (g : α → V) (n : Int) : (match findK n (l.map Prod.fst) with | some j => some ((l.map (sndV g)).getD j .junk) | none => none) = (getMp l n).map g := by
  induction l with
  | nil => rfl
  | cons p r ih =>
    simp only [List.map_cons, findK, getMp]
    by_cases h : n = p.1
    · simp [h, sndV]
    · simp only [if_neg h]
      rw [← ih]
      cases findK n (r.map Prod.fst) with
      | none => rfl
      | some j => simp
theorem getM_map {α : Type} {g : α → V} {z : α} (l : List (Int × α)) (n : Int) : getM (g z) n (l.map Prod.fst) (l.map (sndV g)) = (g ((getMp l n).getD z), (getMp l n).isSome) := by
  have := findK_map l g n
  unfold getM
  cases hf : findK n (l.map Prod.fst) with
  | none =>
    rw [hf] at this
    simp only at this
    cases hg : getMp l n with
    | none => rfl
    | some v => rw [hg] at this; cases this
  | some j =>
    rw [hf] at this
    simp only at this
    cases hg : getMp l n with
    | none => rw [hg] at this; cases this
    | some v =>
      rw [hg] at this
      simp only [Option.map_some, Option.some.injEq] at this
      simp only [this, Option.getD_some, Option.isSome_some]
theorem putM_map {α : Type} {g : α → V} (l : List (Int × α)) (n : Int) (v : α) : putM n (g v) (l.map Prod.fst) (l.map (sndV g)) = .mp ((putMp l n v).map Prod.fst) ((putMp l n v).map (sndV g)) := by
  have key : ∀ l : List (Int × α), (findK n (l.map Prod.fst) = none → putMp l n v = l ++ [(n, v)]) ∧ ∀ j, findK n (l.map Prod.fst) = some j → (putMp l n v).map Prod.fst = l.map Prod.fst ∧ (putMp l n v).map (sndV g) = (l.map (sndV g)).set j (g v) := by
    intro l
    induction l with
    | nil => exact ⟨fun _ => rfl, fun j h => by simp [findK] at h⟩
    | cons p r ih =>
      simp only [List.map_cons, findK, putMp]
      by_cases h : n = p.1
      · refine ⟨fun hh => by simp [h] at hh, fun j hj => ?_⟩
        simp only [h, if_true, Option.some.injEq] at hj ⊢
        subst hj
        simp [sndV]
      · simp only [if_neg h]
        refine ⟨fun hh => ?_, fun j hj => ?_⟩
        · rw [Option.map_eq_none_iff] at hh
          rw [ih.1 hh]; rfl
        · rw [Option.map_eq_some_iff] at hj
          obtain ⟨i, hi, rfl⟩ := hj
          obtain ⟨a, b⟩ := ih.2 i hi
          simp [a, b]
  unfold putM
  cases hf : findK n (l.map Prod.fst) with
  | none => rw [(key l).1 hf]; simp [sndV]
  | some j => obtain ⟨a, b⟩ := (key l).2 j hf; simp only [a, b]

@[go_sem] theorem zeroW_agg {d : TypeDesc} {s b : Nat} {cs : Array Value} {e : Bool} : zeroW ⟨d, s, b, .agg cs, e⟩ = .agg (cs.toList.map fun c => wk1c (constC c)) := by
  simp [zeroW, zeroV, constV, wk1]
@[go_sem] theorem wkT_lit {v : Value} : wkT (.lit v) = .lit v := rfl
@[go_sem] theorem wkT_succ {k : Nat} {f : Bool} {es : List (List Tr)} : wkT (.sl (k + 1) f es) = .sl (k + 1) f es := rfl
@[go_sem] theorem wkT_one {f : Bool} {es : List (List Tr)} : wkT (.sl 1 f es) = .sl 1 f es := rfl
@[go_sem] theorem wkT_nil {f : Bool} : wkT (.sl 0 f []) = .sl 1 false [] := rfl
attribute [go_sem] zeroTw
@[go_sem] theorem zeroW_int {d : TypeDesc} {s b : Nat} {k : IntKind} {n : Int} {e : Bool} : zeroW ⟨d, s, b, .int k n, e⟩ = vint k n := rfl
@[go_sem] theorem zeroW_bool {d : TypeDesc} {s b : Nat} {x : Bool} {e : Bool} : zeroW ⟨d, s, b, .bool x, e⟩ = vbool x := rfl
@[go_sem] theorem zc_slice : wk1c (constC (.slice none 0 0)) = .tr (.sl 1 false []) := rfl
@[go_sem] theorem zc_int {k : IntKind} {n : Int} : wk1c (constC (.int k n)) = vint k n := rfl
@[go_sem] theorem zc_bool {x : Bool} : wk1c (constC (.bool x)) = vbool x := rfl
@[go_sem] theorem wk1_agg {cs : List V} : wk1 (.agg cs) = .agg (cs.map wk1c) := rfl
@[go_sem] theorem wk1_lit {v : Value} : wk1 (.tr (.lit v)) = .tr (.lit v) := rfl
@[go_sem] theorem wk1c_nil {f : Bool} : wk1c (.tr (.sl 0 f [])) = .tr (.sl 1 false []) := rfl
@[go_sem] theorem wk1c_lit {v : Value} : wk1c (.tr (.lit v)) = .tr (.lit v) := rfl
@[go_sem] theorem wk1c_sl {f : Bool} {es : List (List Tr)} : wk1c (.tr (.sl 1 f es)) = .tr (.sl 1 f es) := by
  unfold wk1c; split
  · rename_i h; simp at h
  · rfl

@[go_sem] theorem cpy_map {α : Type} {f : α → List Tr} {l a : List α} {n : Nat} (h : n = List.length l) : cpyT (List.map f l) 0 (List.take n (List.map f a)) = List.map f (cpyL l a) := by
  subst h
  unfold cpyT splice cpyL
  simp [Nat.min_comm]
@[go_sem] theorem cpy_map2 {α : Type} {f : α → List Tr} {l a : List α} {n : Nat} (h : n = List.length l) : cpyT (List.map f l) 0 (List.map f (List.take n a)) = List.map f (cpyL l a) := by
  rw [List.map_take]; exact cpy_map h
@[go_sem] theorem cpy_map3 {α : Type} {f : α → List Tr} {l a : List α} {n : Nat} (h : n = List.length l) : cpyT (List.map f l) 0 (List.map f (List.take (List.length (List.take n l)) a)) = List.map f (cpyL l a) := by
  rw [h, List.take_length]; exact cpy_map2 rfl
@[go_sem] theorem cpy_nil {α : Type} {f : α → List Tr} {l : List α} : cpyT (List.map f l) 0 [] = List.map f (cpyL l []) := by
  unfold cpyT splice cpyL
  simp
section
variable {L : Lg} {m n : Nat} {as : AS} {ob : OT} {Q : KC} {ρ : List (Nat × Nat)} {B : Nat}
theorem VM.mpA {j t ver i i' : Nat} (h : ρ[t]? = some (j, ver)) (hi : i = B + j := by first | rfl | simp) (hi' : i' = B + t := by first | rfl | simp) : VM B (abs B ρ) (.mp i) (.mp i') := by subst hi hi'; exact VM.mp (abs_get h)
theorem OM.mpS {α : Type} {ver : Nat} {ks : List Int} {g : α → V} {l : List (Int × α)} (h : ∀ x, Bd m (g x)) : OM m ρ ver (.mp ks (l.map (sndV g))) (.mp ks (l.map (sndV g))) := by
  refine .mp ks _ _ ?_
  induction l with
  | nil => trivial
  | cons p r ih => exact ⟨VM.self (h p.2), ih⟩

theorem OM.mitA {j t ver ver' i i' c : Nat} {seen : List Nat} (h : ρ[t]? = some (j, ver')) (hi : i = B + j := by first | rfl | simp) (hi' : i' = B + t := by first | rfl | simp) : OM B (abs B ρ) ver (.mit i c seen) (.mit i' c seen) := by
  subst hi hi'; exact .mit _ c seen t ver' (abs_get h)
theorem takeV1_of {α β : Type} {l : List α} {n : Nat} {x : α} {f : α → β} (h : l[n]? = some x) : List.take 1 (List.drop n (List.map f l)) = [f x] := by
  have : (List.map f l)[n]? = some (f x) := by rw [List.getElem?_map, h]; rfl
  exact take1_of this
theorem X_nextMS (O : Ok L) {id : Nat} {o : Oper} {r : List Oper} {x : Operand} (hop : o.op = .next x false) (hg : o.guard = none) {i mm c : Nat} {seen : List Nat} {α : Type} {g : α → V} {l : List (Int × α)}
    (hx : evA n as x = .ref i 0) (ho : getO ob i = some (.mit mm c seen)) (hm : getO ob mm = some (.mp (l.map Prod.fst) (l.map (sndV g)))) (hn : c = l.length)
    (h1 : ∀ j p, l[j]? = some p → j ∉ seen → run L n (o :: r) r (ins o.dst (.tup [vbool true, vint .i64 p.1, g p.2]) as) (ob.set i (some (.mit mm c (seen ++ [j])))) Q)
    (h2 : (∀ j, j < l.length → j ∈ seen) → run L n (o :: r) r (ins o.dst (.tup [vbool false]) as) ob Q) : X L m n (.region id ⟨o :: r⟩ false) as ob Q := by
  subst hn
  refine X_nextM O hop hg hx ho hm (by simp) (fun j k v hk hv hs => ?_) h2
  rw [List.getElem?_map, Option.map_eq_some_iff] at hk hv
  obtain ⟨p, hp, rfl⟩ := hk
  obtain ⟨q, hq, rfl⟩ := hv
  rw [hp] at hq; cases hq
  exact h1 j p hp hs

theorem rangeM_one {α R : Type} [DecidableEq R] {l : List α} {body : α → Option (LR Unit R)} {o : LR Unit R} (h : rangeM l body = some o) {j : Nat} {p : α} (hj : l[j]? = some p) :
    ∃ o', body p = some o' ∧ ((∀ s, o' ≠ .next s) → o = o') := by
  unfold rangeM at h
  split at h
  · cases h
  · rename_i os hos
    have hall : ∀ (l : List α) (os : List (LR Unit R)), l.mapM body = some os → ∀ p ∈ l, ∃ o', body p = some o' ∧ o' ∈ os := by
      intro l
      induction l with
      | nil => intro os _ p hp; simp at hp
      | cons a r ih =>
        intro os hos p hp
        rw [List.mapM_cons] at hos
        cases hb : body a with
        | none => rw [hb] at hos; cases hos
        | some oa =>
          cases hr : r.mapM body with
          | none => rw [hb, hr] at hos; cases hos
          | some rs =>
            rw [hb, hr] at hos
            have : os = oa :: rs := (Option.some.inj hos).symm
            subst this
            rcases List.mem_cons.1 hp with rfl | hp
            · exact ⟨oa, hb, by simp⟩
            · obtain ⟨o', h1, h2⟩ := ih rs hr p hp
              exact ⟨o', h1, by simp [h2]⟩
    obtain ⟨o', h1, h2⟩ := hall l os hos p (List.mem_of_getElem? hj)
    refine ⟨o', h1, fun hne => ?_⟩
    split at h
    · split at h
      · rename_i ha
        have := List.all_eq_true.1 ha o' h2
        cases o' with
        | next s => exact absurd rfl (hne s)
        | _ => cases this
      · cases h
    · rename_i r rs hf
      split at h
      · rename_i ha
        rw [Bool.and_eq_true] at ha
        have hb := List.all_eq_true.1 ha.2 o' h2
        cases o' with
        | next s => exact absurd rfl (hne s)
        | brk s => cases hb
        | ret x =>
          have hm : x ∈ os.filterMap retM := List.mem_filterMap.2 ⟨.ret x, h2, rfl⟩
          rw [hf] at hm
          have hx : x = r := by
            rcases List.mem_cons.1 hm with h | h
            · exact h
            · simpa using List.all_eq_true.1 ha.1 x h
          rw [← Option.some.inj h, hx]
      · cases h
theorem rangeM_all {α R : Type} [DecidableEq R] {l : List α} {body : α → Option (LR Unit R)} {o : LR Unit R} (h : rangeM l body = some o) (hj : ∀ (j : Nat) (p : α), l[j]? = some p → body p = some (.next ())) : o = .next () := by
  have hall : ∀ l : List α, (∀ p ∈ l, body p = some (.next ())) → l.mapM body = some (List.replicate l.length (.next ())) := by
    intro l
    induction l with
    | nil => intro _; rfl
    | cons a r ih =>
      intro h
      rw [List.mapM_cons, h a (by simp), ih (fun p hp => h p (by simp [hp]))]
      rfl
  have hm := hall l (fun p hp => by obtain ⟨j, hj2⟩ := List.getElem?_of_mem hp; exact hj j p hj2)
  unfold rangeM at h
  rw [hm] at h
  have hf : ∀ k, (List.replicate k (LR.next () : LR Unit R)).filterMap retM = [] := by
    intro k; induction k with
    | zero => rfl
    | succ k ih => simp [List.replicate_succ, ih, retM]
  simp only [hf] at h
  split at h
  · exact (Option.some.inj h).symm
  · cases h

def kM (L : Lg) (m n : Nat) {α R : Type} (st : List Nat → AS → OT → Prop) (l : List α) (body : α → Option (LR Unit R)) (seen : List Nat) (Q : KC) : KC := fun e as ob => match e with
  | .normal => ∃ j p, l[j]? = some p ∧ j ∉ seen ∧ body p = some (.next ()) ∧ ∃ as' ob', To L m n as ob as' ob' ∧ st (seen ++ [j]) as' ob'
  | e => Q e as ob
@[congr] theorem kM_congr {α R : Type} {st : List Nat → AS → OT → Prop} {l : List α} {body : α → Option (LR Unit R)} {seen : List Nat} {e : Exit} {as' : AS} {ob' : OT} (h1 : as = as') (h2 : ob = ob') : kM L m n st l body seen Q e as ob = kM L m n st l body seen Q e as' ob' := by rw [h1, h2]
section
variable {α R : Type} {st : List Nat → AS → OT → Prop} {l : List α} {body : α → Option (LR Unit R)} {seen : List Nat}
@[go_sem] theorem kM_e {i : Nat} : kM L m n st l body seen Q (.exit i) as ob = Q (.exit i) as ob := rfl
@[go_sem] theorem kM_r : kM L m n st l body seen Q .ret as ob = Q .ret as ob := rfl
theorem kM_in {as' : AS} {ob' : OT} {j : Nat} {p : α} (hj : l[j]? = some p) (hs : j ∉ seen) (hb : body p = some (.next ())) (h : To L m n as ob as' ob') (k : st (seen ++ [j]) as' ob') : kM L m n st l body seen Q .normal as ob := ⟨j, p, hj, hs, hb, as', ob', h, k⟩
end

theorem nodup_le : ∀ (k : Nat) (l : List Nat), l.Nodup → (∀ a ∈ l, a < k) → l.length ≤ k
  | 0, l, _, h => by
    cases l with
    | nil => exact Nat.le_refl _
    | cons a r => have := h a (by simp); omega
  | k + 1, l, hn, h => by
    by_cases hk : k ∈ l
    · have := nodup_le k (l.erase k) (hn.erase k) (fun a ha => by
        obtain ⟨h1, h2⟩ := hn.mem_erase_iff.1 ha
        have := h a h2; omega)
      rw [List.length_erase_of_mem hk] at this
      omega
    · have := nodup_le k l hn (fun a ha => by
        have := h a ha
        have : a ≠ k := fun e => hk (e ▸ ha)
        omega)
      omega
theorem X_rangeM {α R : Type} [DecidableEq R] {l : List α} {body : α → Option (LR Unit R)} {o : LR Unit R} {c : Code} (hb : rangeM l body = some o) (st : List Nat → AS → OT → Prop) (h0 : ∃ as' ob', To L m n as ob as' ob' ∧ st [] as' ob')
    (round : ∀ seen, ((∀ j, j < l.length → j ∈ seen) → o = .next ()) → ∀ as ob, st seen as ob → X L m n c as ob (kM L m n st l body seen Q)) : X L m n (.loop c) as ob Q := by
  obtain ⟨as', ob', ht, h0⟩ := h0
  refine AWP.weak ht (awp_loop (fun k E => ∃ seen as ob, E = ⟨mkS n as, ob⟩ ∧ st seen as ob ∧ seen.Nodup ∧ (∀ j ∈ seen, j < l.length) ∧ (∀ j ∈ seen, ∀ p, l[j]? = some p → body p = some (.next ())) ∧ seen.length + k = l.length + 1) (l.length + 1) ⟨[], as', ob', rfl, h0, List.nodup_nil, by simp, by simp, by simp⟩ ?_)
  rintro k E ⟨seen, as, ob, rfl, hs, hn, hlt, hbs, hk⟩
  have hr := round seen (fun hall => rangeM_all hb (fun j p hj => hbs j (hall j (List.getElem?_eq_some_iff.1 hj).1) p hj)) as ob hs
  refine AWP.mono hr fun e E' ⟨as1, ob1, he, hq⟩ => ?_
  subst he
  cases e with
  | normal =>
    obtain ⟨j, p, hj, hjs, hbp, as2, ob2, h1, h2⟩ := hq
    have hjl := (List.getElem?_eq_some_iff.1 hj).1
    have hn2 : (seen ++ [j]).Nodup := by
      rw [List.nodup_append]
      refine ⟨hn, by simp, fun a ha b hb => ?_⟩
      simp at hb; subst hb
      intro e; subst e; exact hjs ha
    have hle : (seen ++ [j]).length ≤ l.length := by
      have hsub : (seen ++ [j]) ⊆ List.range l.length := fun a ha => by
        rcases List.mem_append.1 ha with h | h
        · exact List.mem_range.2 (hlt a h)
        · simp at h; subst h; exact List.mem_range.2 hjl
      exact nodup_le _ _ hn2 (fun a ha => List.mem_range.1 (hsub ha))
    simp only [List.length_append, List.length_singleton] at hle
    obtain ⟨k', rfl⟩ : ∃ k', k = k' + 1 := ⟨k - 1, by omega⟩
    refine ⟨k', ⟨mkS n as2, ob2⟩, Nat.lt_succ_self _, h1, seen ++ [j], as2, ob2, rfl, h2, hn2, fun a ha => ?_, fun a ha q hq2 => ?_, by simp; omega⟩
    · rcases List.mem_append.1 ha with h | h
      · exact hlt a h
      · simp at h; subst h; exact hjl
    · rcases List.mem_append.1 ha with h | h
      · exact hbs a h q hq2
      · simp at h; subst h; rw [hj] at hq2; cases hq2; exact hbp
  | _ => exact ⟨as1, ob1, rfl, hq⟩
end
end Go.Ab
end
section
/- The rest of a row of one's own is a row of one's own. -/
namespace Go.Ab
open Go Go.Pp

section
variable {F : Nat → Prop} {n0 : Nat} {w : World} {M : Mem} {G : Gh} {ob : OT}

def rebG (G : Gh) (o ver : Nat) (ri : RI) : Gh := fun o' => if o' = o then (match G o with | some (.row f) => some (.row fun v => if v = ver + 1 then some ri else f v) | x => x) else G o'

theorem Inv.reb (I : Inv F n0 w M G ob) {o ver len k lo nn : Nat} {es : List (List Tr)} {fl : Bool} {r : Value} (ho : getO ob o = some (.row k ver es)) (hv : VR M G (.sub k (.row o ver 0 len) lo nn fl) r) (hl : lo + nn ≤ es.length) :
    ∃ G', Gle G G' ∧ (∀ x, G x = none → G' x = none) ∧ Inv F n0 w M G' (ob.set o (some (.row k (ver + 1) ((es.drop lo).take nn)))) ∧ VR M G' (.row o (ver + 1) 0 nn) r := by
  cases hv with
  | sub _ _ _ _ _ a a' n1 c0 m h hlo hm hm2 hf ha =>
    generalize hx : Value.slice a n1 c0 = y at h
    cases h with
    | row _ _ _ _ f ri a1 hg hv hl1 ha1 =>
      simp only [Value.slice.injEq] at hx
      obtain ⟨rfl, rfl, rfl⟩ := hx
      have hlt := getO_lt ho
      have hobj := I.obj o _ ho
      have hgle : ∀ (ri' : RI), (∀ v, ver < v → f v = none) → Gle G (rebG G o ver ri') := fun ri' hmax x g hgx => by
        by_cases hxo : x = o
        · subst hxo
          rw [hg] at hgx; cases hgx
          refine ⟨.row fun v => if v = ver + 1 then some ri' else f v, by unfold rebG; simp [hg], ?_⟩
          show ∀ v r, f v = some r → (if v = ver + 1 then some ri' else f v) = some r
          intro v r hr
          by_cases hvv : v = ver + 1
          · subst hvv; rw [hmax _ (Nat.lt_succ_self _)] at hr; cases hr
          · simpa [hvv] using hr
        · exact ⟨g, by unfold rebG; simp [hxo]; exact hgx, GI.le_refl g⟩
      have hnone : ∀ (ri' : RI) x, G x = none → rebG G o ver ri' x = none := fun ri' x hx => by
        unfold rebG
        by_cases hxo : x = o
        · subst hxo; rw [hg] at hx; cases hx
        · simp [hxo]; exact hx
      have hne : ∀ (ri' : RI) x, x ≠ o → rebG G o ver ri' x = G x := fun ri' x hx => by unfold rebG; simp [hx]
      have hself : ∀ (ri' : RI), rebG G o ver ri' o = some (.row fun v => if v = ver + 1 then some ri' else f v) := fun ri' => by unfold rebG; simp [hg]
      cases hobj with
      | row _ _ _ f' ri0 b st arr T hg' hv' hmax hk hb hw hcap hlen he hcc =>
        rw [hg] at hg'; cases hg'
        rw [hv] at hv'; cases hv'
        let ri' : RI := ⟨some (b, st + lo * k), m - lo, k⟩
        have hmcap : m ≤ ri.cap := by omega
        refine ⟨rebG G o ver ri', hgle ri' hmax, hnone ri', ?_, ?_⟩
        · refine I.upd (Mle.refl M) (hgle ri' hmax) (fun x hx => hne ri' x hx) (fun _ _ _ _ _ _ => rfl) I.mem (fun o' x b' _ h1 h2 => I.off o' x b' h1 h2) ?_ (fun b' hb' => ?_) hlt
          · have hmul : lo * k + (m - lo) * k = m * k := by rw [← Nat.add_mul]; congr 1; omega
            have hmul2 : m * k ≤ ri.cap * k := Nat.mul_le_mul_right _ hmcap
            refine .row k (ver + 1) _ _ ri' b (st + lo * k) arr T (hself ri') (by simp) (fun v hvv => ?_) rfl rfl hw (by show st + lo * k + (m - lo) * k ≤ arr.size; omega) (by show ((es.drop lo).take nn).length ≤ m - lo; simp; omega)
              (fun e hee => he e (List.mem_of_mem_drop (List.mem_of_mem_take hee))) (fun i e j t hi hj => ?_)
            · have : v ≠ ver + 1 := by omega
              simp only [this, if_false]; exact hmax v (by omega)
            · have hin : i < nn := by
                have := (List.getElem?_eq_some_iff.1 hi).1
                simp at this; omega
              rw [List.getElem?_take_of_lt hin, List.getElem?_drop] at hi
              have := hcc (lo + i) e j t hi hj
              have e1 : st + lo * k + i * k + j = st + (lo + i) * k + j := by rw [Nat.add_mul]; omega
              rw [e1]; exact this
          · simp only [blkO, hself] at hb'
            simp only [if_true, Option.bind_some, Option.map_some, ri'] at hb'
            cases hb'
            have hblk : blkO G o (.row k ver es) = some b := by simp [blkO, hg, hv, hb]
            exact ⟨I.own o _ _ ho hblk, I.off o _ _ ho hblk, fun o' x hne' h1 h2 => hne' (I.dis o' o x _ _ h1 ho h2 hblk)⟩
        · have := VR.row (M := M) (G := rebG G o ver ri') o (ver + 1) 0 nn _ ri' a' (hself ri') (by simp) (by show 0 + nn ≤ m - lo; omega) (fun hc => by
            have hmlo : m ≠ lo := by intro e; apply hc; show m - lo - 0 = 0; omega
            refine ⟨b, st + lo * k, rfl, ?_⟩
            rw [ha hmlo]
            obtain ⟨b2, st2, hb2, rfl⟩ := ha1 (by omega)
            rw [hb] at hb2; cases hb2
            simp only [Option.map_some, Option.some.injEq, Nat.zero_mul, Nat.add_zero]
            rw [add_none])
          exact this
      | nil _ _ f' ri0 hg' hv' hmax hk hb hcap =>
        rw [hg] at hg'; cases hg'
        rw [hv] at hv'; cases hv'
        simp at hl
        obtain ⟨rfl, rfl⟩ := hl
        let ri' : RI := ⟨none, 0, k⟩
        refine ⟨rebG G o ver ri', hgle ri' hmax, hnone ri', ?_, ?_⟩
        · refine I.upd (Mle.refl M) (hgle ri' hmax) (fun x hx => hne ri' x hx) (fun _ _ _ _ _ _ => rfl) I.mem (fun o' x b' _ h1 h2 => I.off o' x b' h1 h2) ?_ (fun b' hb' => ?_) hlt
          · exact .nil k (ver + 1) _ ri' (hself ri') (by simp) (fun v hvv => by
              have : v ≠ ver + 1 := by omega
              simp only [this, if_false]; exact hmax v (by omega)) rfl rfl rfl
          · simp [blkO, hself, ri'] at hb'
        · have h0 : m - 0 = 0 := by omega
          rw [h0]
          exact .row o (ver + 1) 0 0 _ ri' a' (hself ri') (by simp) (by simp) (fun hc => absurd rfl hc)
end

section
variable {L : Lg} {m n : Nat} {as as' : AS} {ob ob' : OT}
theorem To.reb {t o ver len k lo nn nn' : Nat} {es es' : List (List Tr)} {fl : Bool} (ht : evA n as (.tmp t) = .sub k (.row o ver 0 len) lo nn fl) (ho : getO ob o = some (.row k ver es)) (hl : lo + nn ≤ es.length)
    (hes : (es.drop lo).take nn = es') (hnn : nn = nn') (has : ins (some t) (.row o (ver + 1) 0 nn') as = as') (hob : ob.set o (some (.row k (ver + 1) es')) = ob') : To L m n as ob as' ob' := by
  subst hes has hob hnn
  intro X a w hm ⟨M, G, R⟩
  have hslot : VR M G (.sub k (.row o ver 0 len) lo nn fl) (a.eval (.tmp t)) := by
    have := evO_sound R.slots (.tmp t)
    rw [evO_mkS, ht] at this
    exact this
  obtain ⟨G', h1, h2, h3, h4⟩ := R.inv.reb ho hslot hl
  refine ⟨M, G', { R with g := R.g.trans h1, inv := h3, len := ?_, slots := ?_, free := fun x hx hg => h2 x (R.free x hx hg), low := by simpa using R.low }⟩
  · show (mkS n _).length = _
    rw [← setSlot_mkS]
    have := R.len
    simp only [setSlot, List.length_set] at this ⊢
    exact this
  · show SlotsR M G' (mkS n _) a
    rw [← setSlot_mkS]
    intro x v hv
    simp only [setSlot] at hv
    by_cases hx : x = t
    · subst hx
      have hlt : x < (mkS n as).length := by have := (List.getElem?_eq_some_iff.1 hv).1; simpa using this
      rw [List.getElem?_set_self hlt] at hv
      cases hv
      simpa [Act.eval] using h4
    · rw [List.getElem?_set_ne (Ne.symm hx)] at hv
      exact (R.slots x v hv).mono (Mle.refl M) h1
end
end Go.Ab
end
section
/- Regions of any order: two makings that nothing orders, with operations between them. -/
namespace Go.Ab
open Go Go.Pp

section
variable {L : Lg} {X : Cx} {ops : Array Oper}
def swsL : List Nat → List Oper → List Oper
  | [], l => l
  | i :: r, l => swsL r ((swL i l).map (swO i))
end
section
variable {L : Lg} {m n : Nat} {as : AS} {ob : OT} {Q : KC}
end
attribute [go_sem] swsL
end Go.Ab
end
