/- A machine that carries out the translated code on data, and why it is right, part 8 -/
import Derived.Tactics
import Derived.Test.YtmceiidhhpcjkaaDoorA7
set_option linter.all false
section
/- Contracts, and operations one behind the other. -/
namespace Go.Ab
open Go

structure Lg where
  P : Program
  τ : TT
  γ : GT

structure Ok (L : Lg) : Prop where
  agree : Agree L.P L.τ
  mixed : L.P.follows .mixedOrders = true

def FB (G : Gh) (ob : OT) (b : Nat) : Prop := ∃ o x, getO ob o = some x ∧ blkO G o x = some b

structure FnOk (P : Program) (f : FuncId) : Prop where
  ok : ∃ fn, P.funcs[f]? = some fn ∧ (fn.name == "runtime.NumGoroutine") = false ∧ fn.body.isSome = true

def Valid (L : Lg) (f : FuncId) (args : List V) (ob : OT) (res : V) (ob' : OT) : Prop :=
  FnOk L.P f ∧ ob.length ≤ ob'.length ∧ ∀ (w : World) (M : Mem) (G : Gh) (rs : Array Value), Inv (FB G ob) w.heap.size w M G ob → Glob L.γ M → args.length = rs.size → (∀ j c, args[j]? = some c → VR M G c (rs.getD j undef)) →
    Calls L.P f rs w fun e w' => ∃ r M' G', e = .returned r ∧ Mle M M' ∧ Gle G G' ∧ VR M' G' res r ∧ Inv (FB G ob) w.heap.size w' M' G' ob' ∧ FrS (FB G ob) w.heap.size w w' ∧ ∀ o, o < ob.length → G o = none → G' o = none

structure Cx where
  w0 : World
  M0 : Mem
  G0 : Gh
  F : Nat → Prop
  n0 : Nat
  len0 : Nat

structure RelM (L : Lg) (X : Cx) (M : Mem) (G : Gh) (E : E) (a : Act) (w : World) : Prop where
  m : Mle X.M0 M
  g : Gle X.G0 G
  inv : Inv X.F X.n0 w M G E.ob
  fr : FrS X.F X.n0 X.w0 w
  glob : Glob L.γ M
  len : E.slots.length = a.tmps.size
  slots : SlotsR M G E.slots a
  free : ∀ o, o < X.len0 → X.G0 o = none → G o = none
  low : X.len0 ≤ E.ob.length
  size : X.n0 ≤ w.heap.size
  defers : a.defers = []
  dom0 : ∀ o g, X.G0 o = some g → o < X.len0

def RelE (L : Lg) (X : Cx) (E : E) (a : Act) (w : World) : Prop := ∃ M G, RelM L X M G E a w

section
variable {L : Lg} {X : Cx}

def tab (ob : OT) (k : K3) : OT := match k.2.2 with | some x => upds ob k.2.1 ++ [some x] | none => upds ob k.2.1

def perf (L : Lg) (sl : List V) (ob : OT) (op : Op) (K : V → OT → Prop) : Prop :=
  match op with
  | .call { callee := .value f, args, .. } =>
    match evO sl f with
    | .fn g fs cs => ∃ res ob', Valid L g (fs ++ (args.toList.map (evO sl) ++ cs)) ob res ob' ∧ K res ob'
    | _ => False
  | op =>
    match step L.τ L.γ sl (getO ob) ob.length op with
    | some k => K k.1 (tab ob k)
    | none => False

def nilC : Op → Option (TypeId × Operand × Bool)
  | .binOp .eql T x (.const (.slice none 0 0)) _ => some (T, x, true)
  | .binOp .neq T x (.const (.slice none 0 0)) _ => some (T, x, false)
  | _ => none
def isSl (τ : TT) (T : TypeId) : Bool := match τ T with | some i => (match i.d with | .slice _ => true | _ => false) | none => false

def aOps (L : Lg) (all : List Oper) : List Oper → E → (E → Prop) → Prop
  | [], E, K => K E
  | o :: r, E, K =>
    match wnt all E.slots o with
    | some true =>
      match nilC o.op with
      | some (T, x, e) => isSl L.τ T = true ∧ ∃ k es, rdS (getO E.ob) (evO E.slots x) = some (k, es) ∧ ∀ b, (b = true → es = []) → aOps L all r ⟨setSlot E.slots o.dst (vbool (b == e)), E.ob⟩ K
      | none => perf L E.slots E.ob o.op fun v ob' => aOps L all r ⟨setSlot E.slots o.dst v, ob'⟩ K
    | some false => aOps L all r ⟨setSlot E.slots o.dst (.tup []), E.ob⟩ K
    | none => False

theorem wnt_sound {M : Mem} {G : Gh} {ops : Array Oper} {sl : List V} {a : Act} (hs : SlotsR M G sl a) (hl : sl.length = a.tmps.size) {o : Oper} {b : Bool} (h : wnt ops.toList sl o = some b) : Region.wanted o (yielded ops a.tmps) = b := by
  unfold wnt at h
  unfold Region.wanted
  cases hg : o.guard with
  | none => simp [hg] at h; simp [h]
  | some p =>
    obtain ⟨j, want⟩ := p
    simp only [hg] at h
    cases hj : ops.toList[j]? with
    | none => simp [hj] at h
    | some oj =>
      simp only [hj] at h
      have hj' : ops[j]? = some oj := by simpa using hj
      cases hd : oj.dst with
      | none => simp [hd] at h
      | some d =>
        simp only [hd] at h
        have hy : yielded ops a.tmps j = match a.tmps[d]? with | some (.bool b) => some b | _ => none := by
          unfold yielded
          simp only [hj', Option.bind_some, hd]
          rfl
        show (yielded ops a.tmps j == some want) = b
        split at h
        · rename_i x hx
          have hv := hs d _ hx
          have hlt : d < a.tmps.size := by rw [← hl]; exact (List.getElem?_eq_some_iff.1 hx).1
          have hval := litBool_sound hv
          have : a.tmps[d]? = some (.bool x) := by
            rw [Array.getElem?_eq_getElem hlt]
            simpa [Array.getD_eq_getD_getElem?, hlt] using hval
          rw [hy, this]
          simp at h
          rw [← h]
          cases x <;> cases want <;> rfl
        · rename_i hx
          have hv := hs d _ hx
          have hlt : d < a.tmps.size := by rw [← hl]; exact (List.getElem?_eq_some_iff.1 hx).1
          have hval : ∃ vs, a.tmps.getD d undef = .tuple vs := by
            generalize a.tmps.getD d undef = y at hv
            cases hv with | tup _ vs _ _ => exact ⟨vs, rfl⟩
          obtain ⟨vs, hval⟩ := hval
          have : a.tmps[d]? = some (.tuple vs) := by
            rw [Array.getElem?_eq_getElem hlt]
            simpa [Array.getD_eq_getD_getElem?, hlt] using hval
          rw [hy, this]
          have hb : false = b := Option.some.inj h
          subst hb
          rfl
        · simp at h

theorem SlotsR.mono {M M' : Mem} {G G' : Gh} {sl : List V} {a : Act} (h : SlotsR M G sl a) (hM : Mle M M') (hG : Gle G G') : SlotsR M' G' sl a := fun t v hv => (h t v hv).mono hM hG

theorem SlotsR.put {M : Mem} {G : Gh} {sl : List V} {a : Act} (h : SlotsR M G sl a) (hl : sl.length = a.tmps.size) {v : V} {x : Value} (hv : VR M G v x) (d : Option Tmp) : SlotsR M G (setSlot sl d v) (a.put d x) ∧ (setSlot sl d v).length = (a.put d x).tmps.size := by
  cases d with
  | none => exact ⟨h, hl⟩
  | some d =>
    refine ⟨fun t u hu => ?_, by simp [setSlot, Act.put, hl]⟩
    simp only [setSlot] at hu
    simp only [Act.put]
    by_cases htd : t = d
    · subst htd
      have hlt : t < sl.length := by have := (List.getElem?_eq_some_iff.1 hu).1; simpa using this
      rw [List.getElem?_set_self hlt] at hu
      cases hu
      have : t < a.tmps.size := by omega
      simpa [Array.getD_eq_getD_getElem?, this] using hv
    · rw [List.getElem?_set_ne (Ne.symm htd)] at hu
      have := h t u hu
      rw [Array.getD_eq_getD_getElem?, Array.getElem?_setIfInBounds_ne (Ne.symm htd), ← Array.getD_eq_getD_getElem?]
      exact this

theorem toTr_upd {g : Nat → Option O} {v : V} {t : Tr} {ks : List (Nat × Option O)} (h : toTr g v = some (t, ks)) : ∀ p ∈ ks, ∃ x, g p.1 = some x := by
  cases v with
  | tr t => simp [toTr] at h; obtain ⟨_, rfl⟩ := h; simp
  | row o ver off len =>
    simp only [toTr] at h
    cases hr : rdS g (.row o ver off len) with
    | none => simp [hr] at h
    | some q =>
      simp [hr] at h
      obtain ⟨_, rfl⟩ := h
      intro p hp
      simp at hp
      subst hp
      simp only [rdS] at hr
      cases ho : g o with
      | none => simp [ho] at hr
      | some x => exact ⟨x, rfl⟩
  | agg => simp [toTr] at h
  | ref => simp [toTr] at h
  | sub => simp [toTr] at h
  | el => simp [toTr] at h
  | glob => simp [toTr] at h
  | fn => simp [toTr] at h
  | tup => simp [toTr] at h
  | mp => simp [toTr] at h
  | junk => simp [toTr] at h
theorem toTrs_upd {g : Nat → Option O} : ∀ {vs : List V} {ts : List Tr} {ks : List (Nat × Option O)}, toTrs g vs = some (ts, ks) → ∀ p ∈ ks, ∃ x, g p.1 = some x
  | [], ts, ks, h => by simp [toTrs] at h; obtain ⟨_, rfl⟩ := h; simp
  | v :: r, ts, ks, h => by
    simp only [toTrs] at h
    split at h
    · rename_i t k ht
      split at h
      · rename_i ts' ks' hr
        simp at h
        obtain ⟨_, rfl⟩ := h
        intro p hp
        rcases List.mem_append.1 hp with hp | hp
        · exact toTr_upd ht p hp
        · exact toTrs_upd hr p hp
      · simp at h
    · simp at h
theorem fillE_upd {g : Nat → Option O} {size : Nat} : ∀ {ps : List (Nat × V)} {es es' : List (List Tr)} {ks ks' : List (Nat × Option O)}, fillE g size ps es ks = some (es', ks') → (∀ p ∈ ks, ∃ x, g p.1 = some x) → ∀ p ∈ ks', ∃ x, g p.1 = some x
  | [], es, es', ks, ks', h, hk => by simp [fillE] at h; obtain ⟨_, rfl⟩ := h; exact hk
  | (j, v) :: r, es, es', ks, ks', h, hk => by
    simp only [fillE] at h
    split at h
    · split at h
      · rename_i ts k ht
        refine fillE_upd h (fun p hp => ?_)
        rcases List.mem_append.1 hp with hp | hp
        · exact hk p hp
        · exact toTrs_upd ht p hp
      · simp at h
    · simp at h

theorem upds_append_one (ob : OT) (u : List (Nat × Option O)) (hu : ∀ p ∈ u, p.1 < ob.length) (x : Option O) : (upds (ob ++ [none]) u).set ob.length x = upds ob u ++ [x] := by
  induction u generalizing ob with
  | nil => simp [upds]
  | cons p r ih =>
    obtain ⟨i, y⟩ := p
    have hi : i < ob.length := hu (i, y) (by simp)
    simp only [upds]
    have e : (ob ++ [none]).set i y = ob.set i y ++ [none] := by rw [List.set_append_left _ _ hi]
    rw [e]
    have := ih (ob.set i y) (fun p hp => by rw [List.length_set]; exact hu p (by simp [hp]))
    rw [List.length_set] at this
    exact this

theorem upds_pad (ob : OT) (u : List (Nat × Option O)) (hu : ∀ p ∈ u, p.1 < ob.length) : upds (ob ++ [none]) u = upds ob u ++ [none] := by
  induction u generalizing ob with
  | nil => rfl
  | cons p r ih =>
    obtain ⟨i, y⟩ := p
    have hi : i < ob.length := hu (i, y) (by simp)
    simp only [upds]
    have e : (ob ++ [none]).set i y = ob.set i y ++ [none] := by rw [List.set_append_left _ _ hi]
    rw [e]
    exact ih (ob.set i y) (fun p hp => by rw [List.length_set]; exact hu p (by simp [hp]))

theorem Inv.unpad {F : Nat → Prop} {n0 : Nat} {w : World} {M : Mem} {G : Gh} {ob : OT} (I : Inv F n0 w M G (ob ++ [none])) (hG : G ob.length = none) : Inv F n0 w M G ob := by
  refine ⟨I.mem, ?_, ?_, ?_, ?_, fun o g h => ?_⟩
  · have := I.obj; simpa only [getO_append_none] using this
  · have := I.dis; simpa only [getO_append_none] using this
  · have := I.off; simpa only [getO_append_none] using this
  · have := I.own; simpa only [getO_append_none] using this
  · have := I.dom o g h
    have hne : o ≠ ob.length := fun e => by subst e; rw [hG] at h; cases h
    simp at this
    omega

theorem opAppend_upd {i : TI} {g : Nat → Option O} {nb : Nat} {s : V} {ys : List (List Tr)} {k : K3} (h : opAppend i g nb s ys = some k) : ∀ p ∈ k.2.1, ∃ x, g p.1 = some x := by
  unfold opAppend at h
  split at h
  · split at h
    · split at h
      · split at h <;> (simp at h; subst h; simp)
      · split at h
        · split at h
          · rename_i o ver off len _ k' v' es0 ho
            split at h
            · simp at h; subst h
              intro p hp
              simp at hp
              subst hp
              exact ⟨_, ho⟩
            · simp at h
          · simp at h
        · simp at h
    · simp at h
  · simp at h

theorem mapPut_upd {τ : TT} {g : Nat → Option O} {T : TypeId} {x y v : V} {k : K3} (h : opMapPut τ g T x y v = some k) : ∀ p ∈ k.2.1, ∃ x, g p.1 = some x := by
  unfold opMapPut at h
  split at h
  · split at h
    · rename_i ho
      simp only [Option.some.injEq] at h
      subst h
      intro p hp; simp only [List.mem_singleton] at hp; subst hp; exact ⟨_, ho⟩
    · cases h
  · cases h
theorem step_upd {τ : TT} {γ : GT} {sl : List V} {g : Nat → Option O} {nb : Nat} {op : Op} {k : K3} (h : step τ γ sl g nb op = some k) : ∀ p ∈ k.2.1, ∃ x, g p.1 = some x := by
  have triv : ∀ {k : K3} {v : V} {n : Option O}, some (v, ([] : List (Nat × Option O)), n) = some k → ∀ p ∈ k.2.1, ∃ x, g p.1 = some x := by
    intro k v n h; simp at h; subst h; simp
  unfold step at h
  split at h
  · exact triv h
  · exact triv h
  · split at h
    · exact triv h
    · simp at h
  · split at h
    · exact triv h
    · simp at h
  · split at h
    · exact triv h
    · simp at h
  · unfold opBuild at h
    repeat' (first | exact triv h | (split at h) | (cases h; done))
  · unfold opBuildSlice at h
    split at h
    · split at h
      · split at h
        · rename_i es ks hf
          simp at h; subst h
          exact fillE_upd hf (by simp)
        · simp at h
      · simp at h
    · simp at h
  · unfold opLoad at h
    repeat' (first | exact triv h | (split at h) | (cases h; done))
  · unfold opStore at h
    split at h
    · split at h
      · split at h
        · split at h
          · split at h
            · rename_i cs ho
              split at h
              · simp at h; subst h
                intro p hp; simp at hp; subst hp; exact ⟨_, ho⟩
              · simp at h
            · simp at h
          · split at h
            · split at h
              · rename_i k2 v2 es0 ho
                split at h
                · split at h
                  · split at h
                    · split at h
                      · simp at h; subst h
                        intro p hp; simp at hp; subst hp; exact ⟨_, ho⟩
                      · simp at h
                    · simp at h
                  · simp at h
                · simp at h
              · simp at h
            · simp at h
          · simp at h
        · simp at h
      · simp at h
    · simp at h
  · unfold nilOk at h
    repeat' (first | exact triv h | (split at h) | (cases h; done))
  · unfold opBin pv at h
    repeat' (first | exact triv h | (split at h) | (cases h; done))
  · unfold opUn pv at h
    repeat' (first | exact triv h | (split at h) | (cases h; done))
  · unfold opConv2 at h
    have conv : ∀ {S D : TypeId} {x : V}, opConv τ S D x = some k → ∀ p ∈ k.2.1, ∃ x, g p.1 = some x := by
      intro S D x h
      unfold opConv pv at h
      repeat' (first | exact triv h | (split at h) | (cases h; done))
    split at h
    · split at h
      · split at h
        · split at h
          · split at h
            · split at h
              · split at h
                · rename_i hr
                  simp only [Option.some.injEq] at h
                  subst h
                  intro p hp
                  simp only [List.mem_singleton] at hp
                  subst hp
                  simp only [rdS] at hr
                  split at hr
                  · rename_i ho; exact ⟨_, ho⟩
                  · simp at hr
                · simp at h
              · simp at h
            · simp at h
          · simp at h
        · simp at h
      · exact conv h
    · simp at h
  · exact triv h
  · unfold opMake at h
    repeat' (first | exact triv h | (split at h) | (cases h; done))
  · unfold opSlice at h
    split at h
    · rename_i h0
      have e : k.2.1 = [] := by
        simp only [Option.some.injEq] at h
        subst h
        unfold opSlice0 at h0
        repeat' (first | (simp only [Option.some.injEq, Prod.mk.injEq] at h0; exact h0.2.1.symm) | (split at h0) | (cases h0; done))
      rw [e]; intro p hp; cases hp
    · cases h
  · unfold opFieldAddr at h
    repeat' (first | exact triv h | (split at h) | (cases h; done))
  · unfold opField at h
    repeat' (first | exact triv h | (split at h) | (cases h; done))
  · unfold opIndexAddr at h
    repeat' (first | exact triv h | (split at h) | (cases h; done))
  · unfold opIndex at h
    repeat' (first | exact triv h | (split at h) | (cases h; done))
  · unfold opExtract at h
    repeat' (first | exact triv h | (split at h) | (cases h; done))
  · unfold opBuiltin at h
    split at h
    · unfold opLen at h
      repeat' (first | exact triv h | (split at h) | (cases h; done))
    · split at h
      · split at h
        · exact opAppend_upd h
        · simp at h
      · simp at h
    · unfold opCopy at h
      split at h
      · split at h
        · split at h
          · split at h
            · rename_i k2 v2 es0 ho
              split at h
              · simp at h; subst h
                intro p hp; simp at hp; subst hp; exact ⟨_, ho⟩
              · simp at h
            · simp at h
          · simp at h
        · simp at h
      · simp at h
    · unfold opClear at h
      split at h
      · split at h
        · split at h
          · split at h
            · rename_i k2 v2 es0 ho
              split at h
              · simp at h; subst h
                intro p hp; simp at hp; subst hp; exact ⟨_, ho⟩
              · simp at h
            · simp at h
          · simp at h
        · simp at h
      · simp at h
    · split at h
      · rename_i x r _ _ kk a hl
        have : ∀ (rest : List V) (a : Int) (k : K3), minmax true kk a rest = some k → ∀ p ∈ k.2.1, ∃ x, g p.1 = some x := by
          intro rest
          induction rest with
          | nil => intro a k h; exact triv h
          | cons v r ih =>
            intro a k h
            simp only [minmax] at h
            split at h
            · split at h
              · exact ih _ _ h
              · simp at h
            · simp at h
        exact this _ _ _ h
      · simp at h
    · split at h
      · rename_i x r _ _ kk a hl
        have : ∀ (rest : List V) (a : Int) (k : K3), minmax false kk a rest = some k → ∀ p ∈ k.2.1, ∃ x, g p.1 = some x := by
          intro rest
          induction rest with
          | nil => intro a k h; exact triv h
          | cons v r ih =>
            intro a k h
            simp only [minmax] at h
            split at h
            · split at h
              · exact ih _ _ h
              · simp at h
            · simp at h
        exact this _ _ _ h
      · simp at h
    · simp at h
  · unfold opRangeA opRangeM opRange at h
    repeat' (first | exact triv h | (split at h) | (cases h; done))
  · unfold opMakeMap at h
    repeat' (first | exact triv h | (split at h) | (cases h; done))
  · exact mapPut_upd h
  · exact mapPut_upd h
  · unfold opLookup at h
    repeat' (first | exact triv h | (split at h) | (cases h; done))
  · unfold opNext at h
    split at h
    · split at h
      · rename_i ho
        simp only [Option.some.injEq] at h
        subst h
        intro p hp; simp only [List.mem_singleton] at hp; subst hp; exact ⟨_, ho⟩
      · simp at h
    · simp at h
  · unfold opEntry at h
    repeat' (first | exact triv h | (split at h) | (cases h; done))
  · simp at h
end
end Go.Ab
end
section
/- Regions, and the code's own forms. -/
namespace Go.Ab
open Go

section
variable {L : Lg} {X : Cx}

theorem blkO_lt {F : Nat → Prop} {n0 : Nat} {w : World} {M : Mem} {G : Gh} {ob : OT} (I : Inv F n0 w M G ob) : Inv (FB G ob) w.heap.size w M G ob :=
  ⟨I.mem, I.obj, I.dis, I.off, fun o x _ h hb => .inl ⟨o, x, h, hb⟩, I.dom⟩

theorem back_inv {F : Nat → Prop} {n0 : Nat} {w w' : World} {M M' : Mem} {G G' : Gh} {ob ob' : OT} (I : Inv F n0 w M G ob) (hn : n0 ≤ w.heap.size) (J : Inv (FB G ob) w.heap.size w' M' G' ob') : Inv F n0 w' M' G' ob' :=
  ⟨J.mem, J.obj, J.dis, J.off, fun o x b h hb => by
    rcases J.own o x b h hb with ⟨o', x', h', hb'⟩ | h'
    · exact I.own o' x' b h' hb'
    · exact .inr (by omega), J.dom⟩

theorem back_fr {F : Nat → Prop} {n0 : Nat} {w w' : World} {M : Mem} {G : Gh} {ob : OT} (I : Inv F n0 w M G ob) (hn : n0 ≤ w.heap.size) (J : FrS (FB G ob) w.heap.size w w') : FrS F n0 w w' :=
  ⟨J.os, J.tape, J.output, J.size, fun b hb hF => J.block b (by omega) (fun ⟨o, x, h, hb'⟩ => by
    rcases I.own o x b h hb' with h' | h'
    · exact hF h'
    · omega)⟩

theorem step_rel (O : Ok L) {M : Mem} {G : Gh} {e : E} {a : Act} {w : World} (R : RelM L X M G e a w) {o : Oper} {k : K3} (h : step L.τ L.γ e.slots (getO e.ob) e.ob.length o.op = some k) :
    ∃ nx x w', (execOp a.eval o).run L.P w = .ok nx w' ∧ (nx = .value x ∨ (nx = .skip ∧ x = undef)) ∧ RelE L X (e.app o.dst k) (a.put o.dst x) w' := by
  have hG : G e.ob.length = none := by
    cases hg : G e.ob.length with
    | none => rfl
    | some g => have := R.inv.dom _ _ hg; omega
  have N : Nb G (e.ob ++ [none]) e.ob.length := ⟨hG, by simp⟩
  have h' : step L.τ L.γ e.slots (getO (e.ob ++ [none])) e.ob.length o.op = some k := by rw [getO_append_none']; exact h
  obtain ⟨nx, x, w', M', G', S⟩ := step_sound O.agree R.glob R.inv.pad N R.size R.slots h'
  have hlow : ∀ p ∈ k.2.1, p.1 < e.ob.length := fun p hp => by
    obtain ⟨y, hy⟩ := step_upd h p hp
    exact getO_lt hy
  obtain ⟨s1, s2⟩ := (R.slots.mono S.m S.g).put R.len S.val o.dst
  have hdef : (a.put o.dst x).defers = [] := by have := R.defers; cases o.dst <;> simpa [Act.put] using this
  have hfree : ∀ o', o' < X.len0 → X.G0 o' = none → G' o' = none := fun o' h1 h2 => by
    have h3 := R.free o' h1 h2
    have hl := R.low
    exact S.free o' (by simp; omega) h3 (.inl (by omega))
  refine ⟨nx, x, w', S.run, S.res, M', G', ⟨R.m.trans S.m, R.g.trans S.g, ?_, R.fr.trans S.fr, R.glob.mono S.m, s2, s1, hfree, ?_, Nat.le_trans R.size S.fr.size, hdef, R.dom0⟩⟩
  · have := S.inv
    unfold newT at this
    unfold E.app
    cases hk : k.2.2 with
    | none =>
      simp only [hk] at this ⊢
      rw [upds_pad _ _ hlow] at this
      refine this.unpad ?_
      rw [upds_length]
      exact S.free _ (by simp) hG (.inr hk)
    | some y =>
      simp only [hk] at this ⊢
      rw [upds_append_one _ _ hlow] at this
      exact this
  · unfold E.app
    have := R.low
    cases hk : k.2.2 <;> simp [upds_length] <;> omega

theorem callFunc_ok {f : FuncId} (h : FnOk L.P f) (xs : Array Value) (w : World) : (callFunc f xs).run L.P w = .ok (.enter f xs) w := by
  obtain ⟨fn, h1, h2, h3⟩ := h.ok
  have h4 : fn.body ≠ none := by intro hb; simp [hb] at h3
  have h5 : fn.name ≠ "runtime.NumGoroutine" := by simpa using h2
  unfold callFunc
  simp [program, Sem.run, h1, h4, h5]

theorem vl_append {M : Mem} {G : Gh} {cs ds : List V} {xs ys : Array Value} (h1 : cs.length = xs.size) (h2 : ∀ j c, cs[j]? = some c → VR M G c (xs.getD j undef))
    (k2 : ∀ j c, ds[j]? = some c → VR M G c (ys.getD j undef)) : ∀ j c, (cs ++ ds)[j]? = some c → VR M G c ((xs ++ ys).getD j undef) := by
  intro j c hj
  rw [Array.getD_eq_getD_getElem?]
  rcases Nat.lt_or_ge j cs.length with hl | hl
  · rw [List.getElem?_append_left hl] at hj
    rw [Array.getElem?_append_left (by omega), ← Array.getD_eq_getD_getElem?]
    exact h2 j c hj
  · rw [List.getElem?_append_right hl] at hj
    rw [Array.getElem?_append_right (by omega), ← Array.getD_eq_getD_getElem?, ← h1]
    exact k2 _ c hj

theorem perf_sound (O : Ok L) {E : E} {a : Act} {w : World} (R : RelE L X E a w) {o : Oper} {K : V → OT → Prop} (h : perf L E.slots E.ob o.op K) {K' : Act → World → Prop} {Q : Exit → Act → World → Prop}
    (hK : ∀ v ob', K v ob' → ∀ a' w', RelE L X ⟨setSlot E.slots o.dst v, ob'⟩ a' w' → K' a' w') : o.wp L.P a w K' Q := by
  obtain ⟨M, G, R⟩ := R
  unfold perf at h
  split at h
  · rename_i f args _ hop
    split at h
    · rename_i g fs cs hf
      obtain ⟨res, ob', ⟨hok, hlen, hv⟩, hk⟩ := h
      have hfv := evO_sound R.slots f
      rw [hf] at hfv
      generalize hfr : a.eval f = fr at hfv
      cases hfv with
      | fn _ _ _ xs ys h1 h2 ha hb =>
        obtain ⟨a1, a2⟩ := args_sound R.slots args
        have hrun : (execOp a.eval o).run L.P w = .ok (.enter g (xs ++ args.map a.eval ++ ys)) w := by
          have := callFunc_ok hok (xs ++ args.map a.eval ++ ys) w
          simp [execOp, hop, resolve, hfr, Deferred.ofValue, invoke]
          simpa using this
        unfold Oper.wp
        rw [hrun, Oper.upon_enter]
        have hin : Inv (FB G E.ob) w.heap.size w M G E.ob := blkO_lt R.inv
        refine Calls.mono (hv w M G (xs ++ args.map a.eval ++ ys) hin R.glob (by simp [h1, h2]) ?_) ?_
        · rw [← List.append_assoc]
          exact vl_append (by simp [h1]) (vl_append h1 ha a2) hb
        · rintro e w' ⟨r, M', G', rfl, m, gg, hr, iv, fr', free⟩
          have hlow := R.low
          obtain ⟨s1, s2⟩ := (R.slots.mono m gg).put R.len hr o.dst
          have hdef : (a.put o.dst r).defers = [] := by have := R.defers; cases o.dst <;> simpa [Act.put] using this
          exact hK res ob' hk _ _ ⟨M', G', ⟨R.m.trans m, R.g.trans gg, back_inv R.inv R.size iv, R.fr.trans (back_fr R.inv R.size fr'), R.glob.mono m, s2, s1,
            fun o' h1 h2 => free o' (by omega) (R.free o' h1 h2), Nat.le_trans hlow hlen, Nat.le_trans R.size fr'.size, hdef, R.dom0⟩⟩
    · exact h.elim
  · split at h
    · rename_i k hk
      obtain ⟨nx, x, w', h1, h2, h3⟩ := step_rel O R hk
      have := hK _ _ h (a.put o.dst x) w' h3
      unfold Oper.wp
      rw [h1]
      rcases h2 with rfl | ⟨rfl, rfl⟩ <;> exact this
    · exact h.elim
end
end Go.Ab
end
