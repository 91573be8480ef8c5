/- A machine that carries out the translated code on data, and why it is right, part 9 -/
import Derived.Laws.Cover3
import Derived.Test.YtmceiidhhpcjkaaDoorA8
set_option linter.all false
section
/- The code's forms. -/
namespace Go.Ab
open Go

section
variable {L : Lg} {X : Cx}

theorem RelE.put {E : E} {a : Act} {w : World} (R : RelE L X E a w) (d : Option Tmp) : RelE L X ⟨setSlot E.slots d (.tup []), E.ob⟩ (a.put d undef) w := by
  obtain ⟨M, G, R⟩ := R
  have hv : VR M G (.tup []) undef := .tup _ _ rfl (fun j c hj => by simp at hj)
  obtain ⟨s1, s2⟩ := R.slots.put R.len hv d
  have hdef : (a.put d undef).defers = [] := by have := R.defers; cases d <;> simpa [Act.put] using this
  exact ⟨M, G, { R with len := s2, slots := s1, defers := hdef }⟩

theorem nilC_sound (O : Ok L) {E : E} {a : Act} {w : World} (R : RelE L X E a w) {o : Oper} {T : TypeId} {x : Operand} {e : Bool} (hc : nilC o.op = some (T, x, e)) (hT : isSl L.τ T = true) {k : Nat} {es : List (List Tr)}
    (hr : rdS (getO E.ob) (evO E.slots x) = some (k, es)) : ∃ b, (b = true → es = []) ∧ (execOp a.eval o).run L.P w = .ok (.value (.bool (b == e))) w ∧ RelE L X ⟨setSlot E.slots o.dst (vbool (b == e)), E.ob⟩ (a.put o.dst (.bool (b == e))) w := by
  obtain ⟨M, G, R⟩ := R
  obtain ⟨ad, c, hv, _, _, _, hrd⟩ := rd_sound R.inv (evO_sound R.slots x) hr
  have hty : ∃ t, L.P.underlying T = some (.slice t) := by
    unfold isSl at hT
    split at hT
    · rename_i i hi
      split at hT
      · rename_i t ht
        exact ⟨t, by rw [(O.agree.ty T i hi).1, ht]⟩
      · cases hT
    · cases hT
  obtain ⟨t, hty⟩ := hty
  have heq := run_equal_slice_nil (P := L.P) w T t ad es.length c hty
  refine ⟨ad.isNone, fun hn => ?_, ?_, M, G, ?_⟩
  · cases es with
    | nil => rfl
    | cons y q =>
      obtain ⟨b, o, hb, _⟩ := hrd (by simp)
      rw [hb] at hn
      cases hn
  · obtain ⟨dst, op, ty, pos, after, guard⟩ := o
    simp only at hc
    unfold nilC at hc
    split at hc
    · simp only [Option.some.injEq, Prod.mk.injEq] at hc
      obtain ⟨rfl, rfl, rfl⟩ := hc
      have e0 : a.eval (.const (.slice none 0 0)) = .slice none 0 0 := rfl
      simp [execOp, hv, e0, eqGuard, binOp, heq]
    · simp only [Option.some.injEq, Prod.mk.injEq] at hc
      obtain ⟨rfl, rfl, rfl⟩ := hc
      have e0 : a.eval (.const (.slice none 0 0)) = .slice none 0 0 := rfl
      simp [execOp, hv, e0, eqGuard, binOp, heq]
    · cases hc
  · have hb : VR M G (vbool (ad.isNone == e)) (.bool (ad.isNone == e)) := .tr (.lit _ rfl)
    obtain ⟨s1, s2⟩ := R.slots.put R.len hb o.dst
    have hdef : (a.put o.dst (.bool (ad.isNone == e))).defers = [] := by have := R.defers; cases o.dst <;> simpa [Act.put] using this
    exact { R with len := s2, slots := s1, defers := hdef }

theorem ops_sound (O : Ok L) {ops : Array Oper} {K : E → Prop} {Q : Exit → Act → World → Prop} (hQ : ∀ E a w, K E → RelE L X E a w → Q .normal a w) :
    ∀ (l : List Oper) (E : E) (a : Act) (w : World), RelE L X E a w → aOps L ops.toList l E K → wpList L.P ops Q l a w
  | [], E, a, w, R, h => hQ E a w h R
  | o :: r, E, a, w, R, h => by
    have hw : ∀ b, wnt ops.toList E.slots o = some b → Region.wanted o (yielded ops a.tmps) = b := fun b hb => by
      obtain ⟨M, G, R⟩ := R
      exact wnt_sound R.slots R.len hb
    simp only [aOps] at h
    simp only [wpList]
    split at h
    · rename_i hb
      rw [if_pos (hw _ hb)]
      left
      split at h
      · rename_i T x e hn
        obtain ⟨hT, k, es, hr, hk⟩ := h
        obtain ⟨b, h1, h2, h3⟩ := nilC_sound O R hn hT hr
        unfold Oper.wp
        rw [h2]
        exact ops_sound O hQ r _ _ w h3 (hk b h1)
      · exact perf_sound O R h (fun v ob' hk a' w' R' => ops_sound O hQ r _ a' w' R' hk)
    · rename_i hb
      rw [hw _ hb]
      exact ops_sound O hQ r _ _ w (R.put o.dst) h
    · exact h.elim

def AWP (L : Lg) (m : Nat) (c : Code) (E : E) (Q : Exit → Ab.E → Prop) : Prop :=
  ∀ X a w, X.len0 = m → RelE L X E a w → c.wp L.P (fun x a' w' => ∃ E', Q x E' ∧ RelE L X E' a' w') a w

def Wk (L : Lg) (m : Nat) (E E' : Ab.E) : Prop := ∀ X a w, X.len0 = m → RelE L X E a w → RelE L X E' a w
theorem Wk.refl (m : Nat) (E : Ab.E) : Wk L m E E := fun _ _ _ _ h => h
theorem Wk.trans {m : Nat} {a b c : E} (h : Wk L m a b) (k : Wk L m b c) : Wk L m a c := fun X x w hm hr => k X x w hm (h X x w hm hr)

variable {m : Nat} {E : E} {Q : Exit → Ab.E → Prop}

theorem AWP.weak {c : Code} {E' : Ab.E} (h : Wk L m E E') (k : AWP L m c E' Q) : AWP L m c E Q := fun X a w hm hr => k X a w hm (h X a w hm hr)
theorem AWP.mono {c : Code} {Q' : Exit → Ab.E → Prop} (h : AWP L m c E Q) (k : ∀ e E', Q e E' → Q' e E') : AWP L m c E Q' :=
  fun X a w hm hr => wp_mono (h X a w hm hr) fun e _ _ ⟨E', hq, hr'⟩ => ⟨E', k e E' hq, hr'⟩

theorem awp_region (O : Ok L) {id : Nat} {ops : Array Oper} (h : aOps L ops.toList ops.toList E (Q .normal)) : AWP L m (.region id ops false) E Q :=
  fun _ a w _ hr => wp_region_list (ops_sound O (fun E' _ _ hk hr' => ⟨E', hk, hr'⟩) _ E a w hr h)

def EThen (next : Ab.E → Prop) (Q : Exit → Ab.E → Prop) : Exit → Ab.E → Prop
  | .normal, E => next E
  | e, E => Q e E

theorem awp_seq {x y : Code} (h : AWP L m x E (EThen (fun E' => AWP L m y E' Q) Q)) : AWP L m (.seq x y) E Q :=
  fun X a w hm hr => wp_seq (wp_mono (h X a w hm hr) fun e a' w' ⟨E', hq, hr'⟩ => by
    cases e with
    | normal => exact hq X a' w' hm hr'
    | _ => exact ⟨E', hq, hr'⟩)

theorem awp_cond {c : Operand} {x y : Code} {t : Bool} (hc : evO E.slots c = vbool t) (h : AWP L m (if t then x else y) E Q) : AWP L m (.cond c x y) E Q :=
  fun X a w hm hr => by
    have hv : a.eval c = .bool t := by
      obtain ⟨M, G, R⟩ := hr
      have := evO_sound R.slots c
      rw [hc] at this
      exact litBool_sound this
    exact wp_cond hv (h X a w hm hr)

def EBlock (id : Nat) (Q : Exit → Ab.E → Prop) : Exit → Ab.E → Prop
  | .exit id', E => if id' = id then Q .normal E else Q (.exit id') E
  | e, E => Q e E

theorem awp_block {id : Nat} {c : Code} (h : AWP L m c E (EBlock id Q)) : AWP L m (.block id c) E Q :=
  fun X a w hm hr => wp_block (wp_mono (h X a w hm hr) fun e a' w' ⟨E', hq, hr'⟩ => by
    cases e with
    | exit id' =>
      simp only [EBlock] at hq
      simp only [Exit.inBlock]
      split
      · rename_i hid; rw [if_pos hid] at hq; exact ⟨E', hq, hr'⟩
      · rename_i hid; rw [if_neg hid] at hq; exact ⟨E', hq, hr'⟩
    | _ => exact ⟨E', hq, hr'⟩)

theorem awp_skip (h : Q .normal E) : AWP L m .skip E Q := fun _ _ _ _ hr => wp_skip ⟨E, h, hr⟩
theorem awp_exit {id : Nat} (h : Q (.exit id) E) : AWP L m (.exit id) E Q := fun _ _ _ _ hr => wp_exit ⟨E, h, hr⟩
theorem awp_ret (h : Q .ret E) : AWP L m .ret E Q := fun _ _ _ _ hr => wp_ret ⟨E, h, hr⟩

theorem awp_loop {c : Code} (I : Nat → Ab.E → Prop) (k : Nat) (h0 : I k E)
    (round : ∀ k E, I k E → AWP L m c E (EThen (fun E' => ∃ k' E'', k' < k ∧ Wk L m E' E'' ∧ I k' E'') Q)) : AWP L m (.loop c) E Q := by
  intro X a w hm hr b kk cs
  have key : ∀ k a w E, I k E → RelE L X E a w →
      ∃ e a' w', (∃ E', Q e E' ∧ RelE L X E' a' w') ∧ Arrives L.P (lone (b.at a (.code c :: .inLoop c :: kk)) cs w) b kk cs e a' w' := by
    intro k
    induction k using Nat.strongRecOn with
    | _ k ih =>
      intro a w E hI hr
      obtain ⟨e, a1, w1, ⟨E1, hq, hr1⟩, harr⟩ := round k E hI X a w hm hr b (.inLoop c :: kk) cs
      cases e with
      | normal =>
        obtain ⟨k', E2, hlt, hwk, hI2⟩ := hq
        obtain ⟨e2, a2, w2, hq2, harr2⟩ := ih k' hlt a1 w1 E2 hI2 (hwk X a1 w1 hm hr1)
        exact ⟨e2, a2, w2, hq2, .of_steps (Steps.trans harr (.one step_inLoop)) harr2⟩
      | exit id => exact ⟨_, a1, w1, ⟨E1, hq, hr1⟩, .pass (x := .inLoop c) rfl (fun _ _ => .inl (by simp)) harr⟩
      | goto l => exact ⟨_, a1, w1, ⟨E1, hq, hr1⟩, .pass (x := .inLoop c) rfl (fun _ _ => .inl (by simp)) harr⟩
      | ret => exact ⟨_, a1, w1, ⟨E1, hq, hr1⟩, .pass (x := .inLoop c) rfl (fun _ _ => .inl (by simp)) harr⟩
      | panic ch => exact ⟨_, a1, w1, ⟨E1, hq, hr1⟩, .pass (x := .inLoop c) rfl (fun _ _ => .inl (by simp)) harr⟩
      | outgrown => exact ⟨_, a1, w1, ⟨E1, hq, hr1⟩, .pass (x := .inLoop c) rfl (fun _ _ => .inl (by simp)) harr⟩
  obtain ⟨e, a', w', hq, harr⟩ := key k a w E h0 hr
  exact ⟨e, a', w', hq, .of_steps (.one step_loop) harr⟩
end
end Go.Ab
end
section
/- Weaker views of a state: less is known, less is there. -/
namespace Go.Ab
open Go

inductive Bd (n : Nat) : V → Prop
  | tr (t : Tr) : Bd n (.tr t)
  | agg (cs : List V) (h : ∀ c ∈ cs, Bd n c) : Bd n (.agg cs)
  | ref (o off : Nat) (h : o < n) : Bd n (.ref o off)
  | row (o ver off len : Nat) (h : o < n) : Bd n (.row o ver off len)
  | sub (k : Nat) (v : V) (lo len : Nat) (full : Bool) (h : Bd n v) : Bd n (.sub k v lo len full)
  | el (k : Nat) (v : V) (i off : Nat) (h : Bd n v) : Bd n (.el k v i off)
  | glob (g off : Nat) : Bd n (.glob g off)
  | fn (f : FuncId) (as bs : List V) (ha : ∀ c ∈ as, Bd n c) (hb : ∀ c ∈ bs, Bd n c) : Bd n (.fn f as bs)
  | tup (cs : List V) (h : ∀ c ∈ cs, Bd n c) : Bd n (.tup cs)
  | mp (o : Nat) (h : o < n) : Bd n (.mp o)
  | junk : Bd n .junk

section
variable {n : Nat}
@[simp] theorem Bd.tr' (t : Tr) : Bd n (.tr t) := .tr t
@[simp] theorem Bd.glob' (g off : Nat) : Bd n (.glob g off) := .glob g off
@[simp] theorem Bd.junk' : Bd n .junk := .junk
@[simp] theorem Bd.agg' (cs : List V) : Bd n (.agg cs) ↔ ∀ c ∈ cs, Bd n c := ⟨fun h => by cases h with | agg _ h => exact h, .agg cs⟩
@[simp] theorem Bd.tup' (cs : List V) : Bd n (.tup cs) ↔ ∀ c ∈ cs, Bd n c := ⟨fun h => by cases h with | tup _ h => exact h, .tup cs⟩
@[simp] theorem Bd.ref' (o off : Nat) : Bd n (.ref o off) ↔ o < n := ⟨fun h => by cases h with | ref _ _ h => exact h, .ref o off⟩
@[simp] theorem Bd.mp' (o : Nat) : Bd n (.mp o) ↔ o < n := ⟨fun h => by cases h with | mp _ h => exact h, .mp o⟩
@[simp] theorem Bd.row' (o ver off len : Nat) : Bd n (.row o ver off len) ↔ o < n := ⟨fun h => by cases h with | row _ _ _ _ h => exact h, .row o ver off len⟩
@[simp] theorem Bd.sub' (k : Nat) (v : V) (lo len : Nat) (full : Bool) : Bd n (.sub k v lo len full) ↔ Bd n v := ⟨fun h => by cases h with | sub _ _ _ _ _ h => exact h, .sub k v lo len full⟩
@[simp] theorem Bd.el' (k : Nat) (v : V) (i off : Nat) : Bd n (.el k v i off) ↔ Bd n v := ⟨fun h => by cases h with | el _ _ _ _ h => exact h, .el k v i off⟩
@[simp] theorem Bd.fn' (f : FuncId) (as bs : List V) : Bd n (.fn f as bs) ↔ (∀ c ∈ as, Bd n c) ∧ ∀ c ∈ bs, Bd n c := ⟨fun h => by cases h with | fn _ _ _ h k => exact ⟨h, k⟩, fun h => .fn f as bs h.1 h.2⟩

theorem Bd.mono {n n' : Nat} (hn : n ≤ n') {v : V} (h : Bd n v) : Bd n' v := by
  induction h with
  | tr t => exact .tr t
  | agg cs _ ih => exact .agg cs ih
  | ref o off h => exact .ref o off (by omega)
  | row o ver off len h => exact .row o ver off len (by omega)
  | sub k v lo len full _ ih => exact .sub k v lo len full ih
  | el k v i off _ ih => exact .el k v i off ih
  | glob g off => exact .glob g off
  | fn f as bs _ _ iha ihb => exact .fn f as bs iha ihb
  | tup cs _ ih => exact .tup cs ih
  | mp o h => exact .mp o (by omega)
  | junk => exact .junk
@[simp] theorem Bd.add {m c : Nat} {v : V} (h : Bd m v) : Bd (m + c) v := h.mono (Nat.le_add_right _ _)

theorem mem_idx {l : List V} {P : V → Prop} (h : ∀ (j : Nat) (c : V), l[j]? = some c → P c) : ∀ c ∈ l, P c := fun c hc => by
  obtain ⟨j, hj⟩ := List.getElem?_of_mem hc
  exact h j c hj

theorem VR.bd {M : Mem} {G : Gh} (hG : ∀ o g, G o = some g → o < n) {v : V} {r : Value} (h : VR M G v r) : Bd n v := by
  induction h with
  | tr h => exact .tr _
  | agg cs vs hl h ih => exact .agg cs (mem_idx ih)
  | ref o off b hg => exact .ref o off (hG o _ hg)
  | iter o off b hg => exact .ref o off (hG o _ hg)
  | mp o b hg => exact .mp o (hG o _ hg)
  | row o ver off len f ri a hg hv hl ha => exact .row o ver off len (hG o _ hg)
  | sub k v lo n' full a a' n0 c0 m h hlo hm hm2 hf ha ih => exact .sub k v lo n' full ih
  | el k v i off b o n' c h hi ih => exact .el k v i off ih
  | glob g off => exact .glob g off
  | fn f as bs xs ys h1 h2 ha hb iha ihb => exact .fn f as bs (mem_idx iha) (mem_idx ihb)
  | tup cs vs hl h ih => exact .tup cs (mem_idx ih)
  | junk v => exact .junk

def cutG (n : Nat) (G : Gh) : Gh := fun o => if o < n then G o else none
theorem cutG_lt {G : Gh} {o : Nat} (h : o < n) : cutG n G o = G o := if_pos h
theorem cutG_some {G : Gh} {o : Nat} {g : GI} (h : cutG n G o = some g) : o < n ∧ G o = some g := by
  unfold cutG at h
  split at h
  · exact ⟨by assumption, h⟩
  · cases h

theorem VR.cutG {M : Mem} {G : Gh} {v : V} {r : Value} (h : VR M G v r) (hb : Bd n v) : VR M (cutG n G) v r := by
  induction h with
  | tr h => exact .tr h
  | agg cs vs hl h ih => exact .agg cs vs hl (fun j c hj => ih j c hj ((Bd.agg' _).1 hb c (List.mem_of_getElem? hj)))
  | ref o off b hg => exact .ref o off b (by rw [cutG_lt ((Bd.ref' _ _).1 hb)]; exact hg)
  | iter o off b hg => exact .iter o off b (by rw [cutG_lt ((Bd.ref' _ _).1 hb)]; exact hg)
  | mp o b hg => exact .mp o b (by rw [cutG_lt ((Bd.mp' _).1 hb)]; exact hg)
  | row o ver off len f ri a hg hv hl ha => exact .row o ver off len f ri a (by rw [cutG_lt ((Bd.row' _ _ _ _).1 hb)]; exact hg) hv hl ha
  | sub k v lo n' full a a' n0 c0 m h hlo hm hm2 hf ha ih => exact .sub k v lo n' full a a' n0 c0 m (ih ((Bd.sub' _ _ _ _ _).1 hb)) hlo hm hm2 hf ha
  | el k v i off b o n' c h hi ih => exact .el k v i off b o n' c (ih ((Bd.el' _ _ _ _).1 hb)) hi
  | glob g off => exact .glob g off
  | fn f as bs xs ys h1 h2 ha hb' iha ihb => exact .fn f as bs xs ys h1 h2 (fun j c hj => iha j c hj (((Bd.fn' _ _ _).1 hb).1 c (List.mem_of_getElem? hj))) (fun j c hj => ihb j c hj (((Bd.fn' _ _ _).1 hb).2 c (List.mem_of_getElem? hj)))
  | tup cs vs hl h ih => exact .tup cs vs hl (fun j c hj => ih j c hj ((Bd.tup' _).1 hb c (List.mem_of_getElem? hj)))
  | junk v => exact .junk v

def VLe (n : Nat) (v v' : V) : Prop := ∀ (M : Mem) (G : Gh) (r : Value), VR M G v r → VR M (cutG n G) v' r
theorem VLe.self {v : V} (h : Bd n v) : VLe n v v := fun _ _ _ hr => hr.cutG h
@[simp] theorem VLe.junk (v : V) : VLe n v .junk := fun _ _ r _ => .junk r
theorem VLe.notFull (k : Nat) (f : Bool) (es : List (List Tr)) : VLe n (.tr (.sl k f es)) (.tr (.sl k false es)) := fun M G r h => by
  cases h with
  | tr h => cases h with
    | nil _ _ a c hc => exact .tr (.nil k false a c (fun h => by cases h))
    | sl _ _ _ b off c ff hc hle hk hm ht => exact .tr (.sl k false es b off c ff (fun h => by cases h) hle hk hm ht)
theorem VLe.nil (k k' : Nat) (f : Bool) : VLe n (.tr (.sl k f [])) (.tr (.sl k' f [])) := fun M G r h => by
  cases h with
  | tr h => cases h with
    | nil _ _ a c hc => exact .tr (.nil k' f a c hc)
    | sl _ _ _ b off c ff hc hle hk hm ht => exact .tr (.nil k' f _ c hc)
def SlLe (n : Nat) : List V → List V → Prop
  | [], [] => True
  | v :: r, v' :: r' => VLe n v v' ∧ SlLe n r r'
  | _, _ => False
theorem SlLe.length : ∀ {a b : List V}, SlLe n a b → a.length = b.length
  | [], [], _ => rfl
  | _ :: _, _ :: _, h => congrArg (· + 1) h.2.length
theorem SlLe.get : ∀ {a b : List V}, SlLe n a b → ∀ {j : Nat} {v' : V}, b[j]? = some v' → ∃ v, a[j]? = some v ∧ VLe n v v'
  | [], [], _, j, v', hj => by simp at hj
  | _ :: _, _ :: _, h, 0, v', hj => ⟨_, rfl, by simp at hj; subst hj; exact h.1⟩
  | _ :: _, _ :: _, h, j + 1, v', hj => h.2.get (by simpa using hj)

inductive OLe (n : Nat) : O → O → Prop
  | box (cs cs' : List V) (h : SlLe n cs cs') : OLe n (.box cs) (.box cs')
  | row (k ver : Nat) (es : List (List Tr)) : OLe n (.row k ver es) (.row k ver es)
  | iter (s : ByteArray) (pos : Nat) : OLe n (.iter s pos) (.iter s pos)
  | mp (ks : List Int) (vs vs' : List V) (h : SlLe n vs vs') : OLe n (.mp ks vs) (.mp ks vs')
  | mit (o c : Nat) (seen : List Nat) (h : o < n) : OLe n (.mit o c seen) (.mit o c seen)

def TLe (n : Nat) (ob ob' : OT) : Prop := ob'.length = n ∧ n ≤ ob.length ∧ ∀ o x', getO ob' o = some x' → ∃ x, getO ob o = some x ∧ OLe n x x'
end

section
variable {L : Lg} {m : Nat}

theorem ObR.le {w : World} {M : Mem} {G : Gh} {n o : Nat} {x x' : O} (h : ObR w M G o x) (hl : OLe n x x') (ho : o < n) : ObR w M (cutG n G) o x' := by
  cases hl with
  | box cs cs' hs =>
    cases h with
    | box _ b arr T hg hw hl h =>
      refine .box cs' b arr T (by rw [cutG_lt ho]; exact hg) hw (hl.trans hs.length) (fun j c hj => ?_)
      obtain ⟨v, hv, hle⟩ := hs.get hj
      exact hle M G _ (h j v hv)
  | row k ver es =>
    cases h with
    | row _ _ _ f ri b st arr T hg hv hmax hk hb hw hcap hlen he h => exact .row k ver es f ri b st arr T (by rw [cutG_lt ho]; exact hg) hv hmax hk hb hw hcap hlen he h
    | nil _ _ f ri hg hv hmax hk hb hcap => exact .nil k ver f ri (by rw [cutG_lt ho]; exact hg) hv hmax hk hb hcap
  | iter s pos =>
    cases h with
    | iter _ _ b hg hw => exact .iter s pos b (by rw [cutG_lt ho]; exact hg) hw
  | mp ks vs vs' hs =>
    cases h with
    | mp _ _ b es hg hw hk hb hl h =>
      refine .mp ks vs' b es (by rw [cutG_lt ho]; exact hg) hw hk hb (hs.length.symm.trans hl) (fun j c hj => ?_)
      obtain ⟨v, hv, hle⟩ := hs.get hj
      exact hle M G _ (h j v hv)
  | mit m c seen hm =>
    cases h with
    | mit _ _ _ b bm hg hgm hw => exact .mit m c seen b bm (by rw [cutG_lt ho]; exact hg) (by rw [cutG_lt hm]; exact hgm) hw

theorem blkO_le {G : Gh} {n o : Nat} {x x' : O} (hl : OLe n x x') (ho : o < n) : blkO (cutG n G) o x' = blkO G o x := by
  cases hl <;> simp [blkO, cutG_lt ho]

theorem Inv.le {F : Nat → Prop} {n0 : Nat} {w : World} {M : Mem} {G : Gh} {ob ob' : OT} {n : Nat} (I : Inv F n0 w M G ob) (h : TLe n ob ob') : Inv F n0 w M (cutG n G) ob' := by
  obtain ⟨h1, h2, h3⟩ := h
  have hlt : ∀ {o x}, getO ob' o = some x → o < n := fun hx => by have := getO_lt hx; omega
  refine ⟨I.mem, fun o x hx => ?_, fun o o' x x' b hx hx' hb hb' => ?_, fun o x b hx hb => ?_, fun o x b hx hb => ?_, fun o g hg => by rw [h1]; exact (cutG_some hg).1⟩
  · obtain ⟨y, hy, hle⟩ := h3 o x hx
    exact (I.obj o y hy).le hle (hlt hx)
  · obtain ⟨y, hy, hle⟩ := h3 o x hx
    obtain ⟨y', hy', hle'⟩ := h3 o' x' hx'
    rw [blkO_le hle (hlt hx)] at hb
    rw [blkO_le hle' (hlt hx')] at hb'
    exact I.dis o o' y y' b hy hy' hb hb'
  · obtain ⟨y, hy, hle⟩ := h3 o x hx
    rw [blkO_le hle (hlt hx)] at hb
    exact I.off o y b hy hb
  · obtain ⟨y, hy, hle⟩ := h3 o x hx
    rw [blkO_le hle (hlt hx)] at hb
    exact I.own o y b hy hb

theorem Gle.cut {G0 G : Gh} {l n : Nat} (h : Gle G0 G) (hd : ∀ o g, G0 o = some g → o < l) (hl : l ≤ n) : Gle G0 (cutG n G) := fun o g hg => by
  obtain ⟨g', h1, h2⟩ := h o g hg
  exact ⟨g', by rw [cutG_lt (Nat.lt_of_lt_of_le (hd o g hg) hl)]; exact h1, h2⟩

theorem Wk.cut {n : Nat} {s s' : List V} {ob ob' : OT} (hn : m ≤ n) (hs : SlLe n s s') (ho : TLe n ob ob') : Wk L m ⟨s, ob⟩ ⟨s', ob'⟩ := by
  intro X a w hm ⟨M, G, R⟩
  refine ⟨M, cutG n G, ⟨R.m, R.g.cut R.dom0 (hm ▸ hn), R.inv.le ho, R.fr, R.glob, hs.length.symm.trans R.len, fun t v hv => ?_, fun o h1 h2 => ?_, ?_, R.size, R.defers, R.dom0⟩⟩
  · obtain ⟨v0, h0, hle⟩ := hs.get hv
    exact hle M G _ (R.slots t v0 h0)
  · have := R.free o h1 h2
    rw [cutG_lt (by omega)]; exact this
  · show X.len0 ≤ ob'.length
    rw [ho.1]; omega
end
end Go.Ab
end
section
/- What a function answers: rows that appear, stay, or move; the rule for functions. -/
namespace Go.Ab
open Go

section
variable {L : Lg} {m : Nat}

def Rt (m : Nat) (v : V) (ob : OT) (v' : V) (ob' : OT) : Prop :=
  ∀ (F : Nat → Prop) (n0 : Nat) (w : World) (M : Mem) (G0 G : Gh) (r : Value), Gle G0 G → (∀ o g, G0 o = some g → o < m) → (∀ o, o < m → G0 o = none → G o = none) → m ≤ ob.length → Inv F n0 w M G ob → VR M G v r →
    ∃ M' G', Mle M M' ∧ Gle G0 G' ∧ (∀ o, o < m → G0 o = none → G' o = none) ∧ m ≤ ob'.length ∧ Inv F n0 w M' G' ob' ∧ VR M' G' v' r

theorem Rt.refl (v : V) (ob : OT) : Rt m v ob v ob := fun _ _ _ M _ G _ h1 _ h3 h4 h5 h6 => ⟨M, G, Mle.refl _, h1, h3, h4, h5, h6⟩
theorem Rt.trans {v v1 v2 : V} {ob ob1 ob2 : OT} (h : Rt m v ob v1 ob1) (k : Rt m v1 ob1 v2 ob2) : Rt m v ob v2 ob2 := fun F n0 w M G0 G r h1 h2 h3 h4 h5 h6 => by
  obtain ⟨M1, G1, a1, a2, a3, a4, a5, a6⟩ := h F n0 w M G0 G r h1 h2 h3 h4 h5 h6
  obtain ⟨M2, G2, b1, b2, b3, b4, b5, b6⟩ := k F n0 w M1 G0 G1 r a2 h2 a3 a4 a5 a6
  exact ⟨M2, G2, a1.trans b1, b2, b3, b4, b5, b6⟩

theorem Rt.cut {v v' : V} {ob ob' : OT} {n : Nat} (hn : m ≤ n) (hv : VLe n v v') (ho : TLe n ob ob') : Rt m v ob v' ob' := fun F n0 w M G0 G r h1 h2 h3 h4 h5 h6 =>
  ⟨M, cutG n G, Mle.refl _, h1.cut h2 hn, fun o ho hg => by rw [cutG_lt (by omega)]; exact h3 o ho hg, by rw [ho.1]; exact hn, h5.le ho, hv M G r h6⟩

/- rows that nobody writes any more -/
mutual
def frz (g : Nat → Option O) : V → Option (V × List (Nat × Option O))
  | .row o ver off len => match toTr g (.row o ver off len) with | some (t, ks) => some (.tr t, ks) | none => none
  | .agg cs => match frzL g cs with | some (cs', ks) => some (.agg cs', ks) | none => none
  | .tup cs => match frzL g cs with | some (cs', ks) => some (.tup cs', ks) | none => none
  | v => some (v, [])
def frzL (g : Nat → Option O) : List V → Option (List V × List (Nat × Option O))
  | [] => some ([], [])
  | v :: r =>
    match frz g v with
    | some (v', k) => match frzL g r with | some (r', ks) => some (v' :: r', k ++ ks) | none => none
    | none => none
end

variable {F : Nat → Prop} {n0 : Nat} {w : World} {M : Mem} {G : Gh} {ob : OT}

theorem Gone.self (M : Mem) (G : Gh) (ob : OT) : Gone w M G ob ob := fun _ _ h => .inl h

mutual
theorem frz_sound (I0 : Inv F n0 w M G ob) : ∀ {v : V} {r : Value} {M1 : Mem} {ob1 : OT} {v' : V} {ks : List (Nat × Option O)}, Mle M M1 → Inv F n0 w M1 G ob1 → Gone w M1 G ob ob1 → VR M G v r → frz (getO ob) v = some (v', ks) →
    ∃ M', Mle M1 M' ∧ Inv F n0 w M' G (upds ob1 ks) ∧ Gone w M' G ob (upds ob1 ks) ∧ VR M' G v' r
  | .row o ver off len, r, M1, ob1, v', ks, hM, I, hg, hv, h => by
    simp only [frz] at h
    split at h
    · rename_i t ks' ht
      simp only [Option.some.injEq, Prod.mk.injEq] at h
      obtain ⟨rfl, rfl⟩ := h
      obtain ⟨M', h1, h2, h3, h4⟩ := toTr_sound I0 hM I hg hv ht
      exact ⟨M', h1, h2, h3, .tr h4⟩
    · simp at h
  | .agg cs, r, M1, ob1, v', ks, hM, I, hg, hv, h => by
    simp only [frz] at h
    split at h
    · rename_i cs' ks' ht
      simp only [Option.some.injEq, Prod.mk.injEq] at h
      obtain ⟨rfl, rfl⟩ := h
      cases hv with
      | agg _ vs hl hh =>
        obtain ⟨M', h1, h2, h3, h4, h5⟩ := frzL_sound I0 hM I hg hl hh ht
        exact ⟨M', h1, h2, h3, .agg _ _ h4 h5⟩
    · simp at h
  | .tup cs, r, M1, ob1, v', ks, hM, I, hg, hv, h => by
    simp only [frz] at h
    split at h
    · rename_i cs' ks' ht
      simp only [Option.some.injEq, Prod.mk.injEq] at h
      obtain ⟨rfl, rfl⟩ := h
      cases hv with
      | tup _ vs hl hh =>
        obtain ⟨M', h1, h2, h3, h4, h5⟩ := frzL_sound I0 hM I hg hl hh ht
        exact ⟨M', h1, h2, h3, .tup _ _ h4 h5⟩
    · simp at h
  | .tr t, r, M1, ob1, v', ks, hM, I, hg, hv, h => by
    simp only [frz, Option.some.injEq, Prod.mk.injEq] at h; obtain ⟨rfl, rfl⟩ := h; exact ⟨M1, Mle.refl _, I, hg, hv.mono hM (Gle.refl G)⟩
  | .ref o off, r, M1, ob1, v', ks, hM, I, hg, hv, h => by
    simp only [frz, Option.some.injEq, Prod.mk.injEq] at h; obtain ⟨rfl, rfl⟩ := h; exact ⟨M1, Mle.refl _, I, hg, hv.mono hM (Gle.refl G)⟩
  | .sub k v lo n f, r, M1, ob1, v', ks, hM, I, hg, hv, h => by
    simp only [frz, Option.some.injEq, Prod.mk.injEq] at h; obtain ⟨rfl, rfl⟩ := h; exact ⟨M1, Mle.refl _, I, hg, hv.mono hM (Gle.refl G)⟩
  | .el k v i off, r, M1, ob1, v', ks, hM, I, hg, hv, h => by
    simp only [frz, Option.some.injEq, Prod.mk.injEq] at h; obtain ⟨rfl, rfl⟩ := h; exact ⟨M1, Mle.refl _, I, hg, hv.mono hM (Gle.refl G)⟩
  | .glob g off, r, M1, ob1, v', ks, hM, I, hg, hv, h => by
    simp only [frz, Option.some.injEq, Prod.mk.injEq] at h; obtain ⟨rfl, rfl⟩ := h; exact ⟨M1, Mle.refl _, I, hg, hv.mono hM (Gle.refl G)⟩
  | .fn f a b, r, M1, ob1, v', ks, hM, I, hg, hv, h => by
    simp only [frz, Option.some.injEq, Prod.mk.injEq] at h; obtain ⟨rfl, rfl⟩ := h; exact ⟨M1, Mle.refl _, I, hg, hv.mono hM (Gle.refl G)⟩
  | .mp o, r, M1, ob1, v', ks, hM, I, hg, hv, h => by
    simp only [frz, Option.some.injEq, Prod.mk.injEq] at h; obtain ⟨rfl, rfl⟩ := h; exact ⟨M1, Mle.refl _, I, hg, hv.mono hM (Gle.refl G)⟩
  | .junk, r, M1, ob1, v', ks, hM, I, hg, hv, h => by
    simp only [frz, Option.some.injEq, Prod.mk.injEq] at h; obtain ⟨rfl, rfl⟩ := h; exact ⟨M1, Mle.refl _, I, hg, hv.mono hM (Gle.refl G)⟩
theorem frzL_sound (I0 : Inv F n0 w M G ob) : ∀ {vs : List V} {rs : Array Value} {M1 : Mem} {ob1 : OT} {vs' : List V} {ks : List (Nat × Option O)}, Mle M M1 → Inv F n0 w M1 G ob1 → Gone w M1 G ob ob1 → vs.length = rs.size →
    (∀ j c, vs[j]? = some c → VR M G c (rs.getD j undef)) → frzL (getO ob) vs = some (vs', ks) →
    ∃ M', Mle M1 M' ∧ Inv F n0 w M' G (upds ob1 ks) ∧ Gone w M' G ob (upds ob1 ks) ∧ vs'.length = rs.size ∧ ∀ j c, vs'[j]? = some c → VR M' G c (rs.getD j undef)
  | [], rs, M1, ob1, vs', ks, hM, I, hg, hl, hv, h => by
    simp only [frzL, Option.some.injEq, Prod.mk.injEq] at h
    obtain ⟨rfl, rfl⟩ := h
    exact ⟨M1, Mle.refl _, I, hg, hl, fun j c hj => by simp at hj⟩
  | v :: r, rs, M1, ob1, vs', ks, hM, I, hg, hl, hv, h => by
    simp only [frzL] at h
    split at h
    · rename_i v1 k1 h1
      split at h
      · rename_i r1 k2 h2
        simp only [Option.some.injEq, Prod.mk.injEq] at h
        obtain ⟨rfl, rfl⟩ := h
        obtain ⟨M2, a1, a2, a3, a4⟩ := frz_sound I0 hM I hg (hv 0 v rfl) h1
        obtain ⟨M3, b1, b2, b3, b4, b5⟩ := frzL_sound I0 (rs := (rs.toList.drop 1).toArray) (hM.trans a1) a2 a3 (by simp at hl; simp; omega) (fun j c hj => by
          have := hv (j + 1) c (by simpa using hj)
          simpa [Array.getD_eq_getD_getElem?, Nat.add_comm] using this) h2
        refine ⟨M3, a1.trans b1, by rw [upds_append]; exact b2, by rw [upds_append]; exact b3, by simp at b4 hl ⊢; omega, fun j c hj => ?_⟩
        cases j with
        | zero => simp at hj; subst hj; exact a4.mono b1 (Gle.refl G)
        | succ j =>
          have := b5 j c (by simpa using hj)
          simpa [Array.getD_eq_getD_getElem?, Nat.add_comm] using this
      · simp at h
    · simp at h
end

theorem Rt.freeze {v v' : V} {ks : List (Nat × Option O)} (h : frz (getO ob) v = some (v', ks)) : Rt m v ob v' (upds ob ks) := fun F n0 w M G0 G r h1 h2 h3 h4 h5 h6 => by
  obtain ⟨M', a1, a2, _, a4⟩ := frz_sound h5 (Mle.refl M) h5 (Gone.self M G ob) h6 h
  exact ⟨M', G, a1, h1, h3, by rw [upds_length]; exact h4, a2, a4⟩
end
end Go.Ab
end
section
/- Empty rows that appear; rows that move; the rule for functions. -/
namespace Go.Ab
open Go

def SlR (R : V → V → Prop) : List V → List V → Prop
  | [], [] => True
  | v :: r, v' :: r' => R v v' ∧ SlR R r r'
  | _, _ => False
theorem SlR.length {R : V → V → Prop} : ∀ {a b : List V}, SlR R a b → a.length = b.length
  | [], [], _ => rfl
  | _ :: _, _ :: _, h => congrArg (· + 1) h.2.length
theorem SlR.get {R : V → V → Prop} : ∀ {a b : List V}, SlR R a b → ∀ {j : Nat} {v' : V}, b[j]? = some v' → ∃ v, a[j]? = some v ∧ R v v'
  | [], [], _, j, v', hj => by simp at hj
  | _ :: _, _ :: _, h, 0, v', hj => ⟨_, rfl, by simp at hj; subst hj; exact h.1⟩
  | _ :: _, _ :: _, h, j + 1, v', hj => h.2.get (by simpa using hj)

inductive OR (R : V → V → Prop) : O → O → Prop
  | box (cs cs' : List V) (h : SlR R cs cs') : OR R (.box cs) (.box cs')
  | same (x : O) : OR R x x

def ghostI (k : Nat) : GI := .row fun v => if v = 0 then some ⟨none, 0, k⟩ else none

def VG (nb k : Nat) (v v' : V) : Prop := ∀ (M : Mem) (G : Gh) (r : Value), G nb = some (ghostI k) → VR M G v r → VR M G v' r
theorem VG.refl (nb k : Nat) (v : V) : VG nb k v v := fun _ _ _ _ h => h
theorem VG.nil (nb k k' : Nat) : VG nb k (.tr (.sl k' true [])) (.row nb 0 0 0) := fun M G r hg h => by
  have key : ∃ a, r = .slice a 0 0 := by
    cases h with
    | tr h => cases h with
      | nil _ _ a c hc => exact ⟨a, by rw [hc rfl]⟩
      | sl _ _ _ b off c ff hc hle hk hm ht => exact ⟨_, by have := hc rfl; subst this; rfl⟩
  obtain ⟨a, rfl⟩ := key
  exact .row nb 0 0 0 _ ⟨none, 0, k⟩ a hg rfl (by simp) (fun h => absurd rfl h)
theorem VG.agg {nb k : Nat} {cs cs' : List V} (h : SlR (VG nb k) cs cs') : VG nb k (.agg cs) (.agg cs') := fun M G r hg hr => by
  cases hr with
  | agg _ vs hl hh => exact .agg cs' vs (h.length ▸ hl) (fun j c hj => by
      obtain ⟨v, hv, hR⟩ := h.get hj
      exact hR M G _ hg (hh j v hv))
theorem VG.tup {nb k : Nat} {cs cs' : List V} (h : SlR (VG nb k) cs cs') : VG nb k (.tup cs) (.tup cs') := fun M G r hg hr => by
  cases hr with
  | tup _ vs hl hh => exact .tup cs' vs (h.length ▸ hl) (fun j c hj => by
      obtain ⟨v, hv, hR⟩ := h.get hj
      exact hR M G _ hg (hh j v hv))

def TG (k : Nat) (ob ob' : OT) : Prop := ob'.length = ob.length + 1 ∧ getO ob' ob.length = some (.row k 0 []) ∧ ∀ o x', o < ob.length → getO ob' o = some x' → ∃ x, getO ob o = some x ∧ OR (VG ob.length k) x x'

section
variable {F : Nat → Prop} {n0 : Nat} {w : World} {M : Mem} {G : Gh} {ob ob' : OT}

theorem Inv.ghosts (I : Inv F n0 w M G ob) {k : Nat} (h : TG k ob ob') : Gle G (setG G ob.length (ghostI k)) ∧ Inv F n0 w M (setG G ob.length (ghostI k)) ob' := by
  obtain ⟨h1, h2, h3⟩ := h
  have hG : G ob.length = none := by
    cases hg : G ob.length with
    | none => rfl
    | some g => have := I.dom _ _ hg; omega
  have hle : Gle G (setG G ob.length (ghostI k)) := Gle.setG (fun g' hg => by rw [hG] at hg; cases hg)
  have hlow : ∀ o, o < ob.length → setG G ob.length (ghostI k) o = G o := fun o ho => setG_ne G _ (by omega)
  have hblk : ∀ o x x', o < ob.length → OR (VG ob.length k) x x' → blkO (setG G ob.length (ghostI k)) o x' = blkO G o x := by
    intro o x x' ho hR
    cases hR with
    | box => simp [blkO, hlow o ho]
    | same => exact blkO_congr (hlow o ho) x
  have hcase : ∀ {o x b}, getO ob' o = some x → blkO (setG G ob.length (ghostI k)) o x = some b → ∃ y, getO ob o = some y ∧ blkO G o y = some b := by
    intro o x b hx hb
    have hlt : o < ob.length + 1 := by have := getO_lt hx; omega
    by_cases ho : o = ob.length
    · subst ho
      rw [h2] at hx; cases hx
      simp [blkO, setG_self, ghostI] at hb
    · obtain ⟨y, hy, hR⟩ := h3 o x (by omega) hx
      exact ⟨y, hy, by rw [← hblk o y x (by omega) hR]; exact hb⟩
  refine ⟨hle, I.mem, fun o x hx => ?_, fun o o' x x' b hx hx' hb hb' => ?_, fun o x b hx hb => ?_, fun o x b hx hb => ?_, fun o g hg => ?_⟩
  · have hlt : o < ob.length + 1 := by have := getO_lt hx; omega
    by_cases ho : o = ob.length
    · subst ho
      rw [h2] at hx; cases hx
      exact .nil k 0 _ ⟨none, 0, k⟩ (setG_self _ _ _) rfl (fun v hv => by simp; omega) rfl rfl rfl
    · obtain ⟨y, hy, hR⟩ := h3 o x (by omega) hx
      have hO := (I.obj o y hy).mono (Mle.refl M) hle (hlow o (by omega)) (fun _ _ => rfl)
      cases hR with
      | same => exact hO
      | box cs cs' hs =>
        cases hO with
        | box _ b arr T hg hw hl hh => exact .box cs' b arr T hg hw (hl.trans hs.length) (fun j c hj => by
            obtain ⟨v, hv, hR⟩ := hs.get hj
            exact hR M _ _ (setG_self _ _ _) (hh j v hv))
  · obtain ⟨y, hy, hb⟩ := hcase hx hb
    obtain ⟨y', hy', hb'⟩ := hcase hx' hb'
    exact I.dis o o' y y' b hy hy' hb hb'
  · obtain ⟨y, hy, hb⟩ := hcase hx hb
    exact I.off o y b hy hb
  · obtain ⟨y, hy, hb⟩ := hcase hx hb
    exact I.own o y b hy hb
  · rw [h1]
    by_cases ho : o = ob.length
    · omega
    · rw [setG_ne G _ ho] at hg
      have := I.dom o g hg
      omega
end

section
variable {L : Lg} {m : Nat}

theorem Wk.ghost {k : Nat} {s s' : List V} {ob ob' : OT} (hs : SlR (VG ob.length k) s s') (ho : TG k ob ob') : Wk L m ⟨s, ob⟩ ⟨s', ob'⟩ := by
  intro X a w hm ⟨M, G, R⟩
  obtain ⟨hle, hI⟩ := R.inv.ghosts ho
  have hlow := R.low
  have e1 := ho.1
  refine ⟨M, _, ⟨R.m, R.g.trans hle, hI, R.fr, R.glob, hs.length.symm.trans R.len, fun t v hv => ?_, fun o h1 h2 => ?_, ?_, R.size, R.defers, R.dom0⟩⟩
  · obtain ⟨v0, h0, hR⟩ := hs.get hv
    exact hR M _ _ (setG_self _ _ _) ((R.slots t v0 h0).mono (Mle.refl M) hle)
  · have := R.free o h1 h2
    have hne : o ≠ ob.length := fun e => by simp only [e] at h1; exact absurd (Nat.lt_of_lt_of_le h1 hlow) (Nat.lt_irrefl _)
    rw [setG_ne G _ hne]; exact this
  · exact Nat.le_trans hlow (by show ob.length ≤ ob'.length; omega)

theorem Rt.ghost {k : Nat} {v v' : V} {ob ob' : OT} (hv : VG ob.length k v v') (ho : TG k ob ob') : Rt m v ob v' ob' := fun F n0 w M G0 G r h1 h2 h3 h4 h5 h6 => by
  obtain ⟨hle, hI⟩ := h5.ghosts ho
  have e1 := ho.1
  exact ⟨M, _, Mle.refl M, h1.trans hle, fun o h1 hg => by rw [setG_ne G _ (by omega)]; exact h3 o h1 hg, by omega, hI, hv M _ _ (setG_self _ _ _) (h6.mono (Mle.refl M) hle)⟩

def verG (ver : Nat) : GI → GI
  | .row f => .row fun v => if v = 0 then f ver else none
  | g => g
def mvG (m : Nat) (ρ : List (Nat × Nat)) (G : Gh) : Gh := fun o => if o < m then G o else (ρ[o - m]?).bind fun p => (G p.1).map (verG p.2)
def VM (m : Nat) (ρ : List (Nat × Nat)) (v v' : V) : Prop := ∀ (M : Mem) (G : Gh) (r : Value), VR M G v r → VR M (mvG m ρ G) v' r
theorem mvG_lt {ρ : List (Nat × Nat)} {G : Gh} {o : Nat} (h : o < m) : mvG m ρ G o = G o := if_pos h
theorem mvG_at {ρ : List (Nat × Nat)} {G : Gh} {t i ver : Nat} (h : ρ[t]? = some (i, ver)) : mvG m ρ G (m + t) = (G i).map (verG ver) := by
  unfold mvG
  rw [if_neg (by omega), show m + t - m = t by omega, h]
  rfl
theorem VR.low {M : Mem} {G G' : Gh} (hG : ∀ o, o < m → G' o = G o) {v : V} {r : Value} (h : VR M G v r) (hb : Bd m v) : VR M G' v r := by
  induction h with
  | tr h => exact .tr h
  | agg cs vs hl h ih => exact .agg cs vs hl (fun j c hj => ih j c hj ((Bd.agg' _).1 hb c (List.mem_of_getElem? hj)))
  | ref o off b hg => exact .ref o off b (by rw [hG _ ((Bd.ref' _ _).1 hb)]; exact hg)
  | iter o off b hg => exact .iter o off b (by rw [hG _ ((Bd.ref' _ _).1 hb)]; exact hg)
  | mp o b hg => exact .mp o b (by rw [hG _ ((Bd.mp' _).1 hb)]; exact hg)
  | row o ver off len f ri a hg hv hl ha => exact .row o ver off len f ri a (by rw [hG _ ((Bd.row' _ _ _ _).1 hb)]; exact hg) hv hl ha
  | sub k v lo n' full a a' n0 c0 m h hlo hm hm2 hf ha ih => exact .sub k v lo n' full a a' n0 c0 m (ih ((Bd.sub' _ _ _ _ _).1 hb)) hlo hm hm2 hf ha
  | el k v i off b o n' c h hi ih => exact .el k v i off b o n' c (ih ((Bd.el' _ _ _ _).1 hb)) hi
  | glob g off => exact .glob g off
  | fn f as bs xs ys h1 h2 ha hb' iha ihb => exact .fn f as bs xs ys h1 h2 (fun j c hj => iha j c hj (((Bd.fn' _ _ _).1 hb).1 c (List.mem_of_getElem? hj))) (fun j c hj => ihb j c hj (((Bd.fn' _ _ _).1 hb).2 c (List.mem_of_getElem? hj)))
  | tup cs vs hl h ih => exact .tup cs vs hl (fun j c hj => ih j c hj ((Bd.tup' _).1 hb c (List.mem_of_getElem? hj)))
  | junk v => exact .junk v
theorem VM.self {ρ : List (Nat × Nat)} {v : V} (h : Bd m v) : VM m ρ v v := fun _ _ _ hr => hr.low (fun _ ho => mvG_lt ho) h
theorem VM.row {ρ : List (Nat × Nat)} {i t ver off len : Nat} (h : ρ[t]? = some (i, ver)) : VM m ρ (.row i ver off len) (.row (m + t) 0 off len) := fun M G r hr => by
  cases hr with
  | row _ _ _ _ f ri a hg hv hl ha => exact .row _ _ _ _ (fun v => if v = 0 then f ver else none) ri a (by rw [mvG_at h, hg]; rfl) hv hl ha
theorem VM.row0 {ρ : List (Nat × Nat)} {i ver off len : Nat} : VM m ((i, ver) :: ρ) (.row i ver off len) (.row m 0 off len) := VM.row (t := 0) rfl
theorem VM.agg {ρ : List (Nat × Nat)} {cs cs' : List V} (h : SlR (VM m ρ) cs cs') : VM m ρ (.agg cs) (.agg cs') := fun M G r hr => by
  cases hr with
  | agg _ vs hl hh => exact .agg cs' vs (h.length ▸ hl) (fun j c hj => by
      obtain ⟨v, hv, hR⟩ := h.get hj
      exact hR M G _ (hh j v hv))
theorem VM.tup {ρ : List (Nat × Nat)} {cs cs' : List V} (h : SlR (VM m ρ) cs cs') : VM m ρ (.tup cs) (.tup cs') := fun M G r hr => by
  cases hr with
  | tup _ vs hl hh => exact .tup cs' vs (h.length ▸ hl) (fun j c hj => by
      obtain ⟨v, hv, hR⟩ := h.get hj
      exact hR M G _ (hh j v hv))

theorem VM.ref {ρ : List (Nat × Nat)} {i t ver off : Nat} (h : ρ[t]? = some (i, ver)) : VM m ρ (.ref i off) (.ref (m + t) off) := fun M G r hr => by
  cases hr with
  | ref _ _ b hg => exact .ref _ _ b (by rw [mvG_at h, hg]; rfl)
  | iter _ _ b hg => exact .iter _ _ b (by rw [mvG_at h, hg]; rfl)
theorem VM.mp {ρ : List (Nat × Nat)} {i t ver : Nat} (h : ρ[t]? = some (i, ver)) : VM m ρ (.mp i) (.mp (m + t)) := fun M G r hr => by
  cases hr with
  | mp _ b hg => exact .mp _ b (by rw [mvG_at h, hg]; rfl)
theorem VM.junk (ρ : List (Nat × Nat)) (v : V) : VM m ρ v .junk := fun _ _ r _ => .junk r
theorem VM.sub {ρ : List (Nat × Nat)} {k : Nat} {v v' : V} {lo n : Nat} {f : Bool} (h : VM m ρ v v') : VM m ρ (.sub k v lo n f) (.sub k v' lo n f) := fun M G r hr => by
  cases hr with
  | sub _ _ _ _ _ a a' n0 c0 m h1 hlo hm hm2 hf ha => exact .sub _ _ _ _ _ a a' n0 c0 m (h M G _ h1) hlo hm hm2 hf ha

inductive OM (m : Nat) (ρ : List (Nat × Nat)) (ver : Nat) : O → O → Prop
  | box (cs cs' : List V) (h : SlR (VM m ρ) cs cs') : OM m ρ ver (.box cs) (.box cs')
  | row (k : Nat) (es : List (List Tr)) : OM m ρ ver (.row k ver es) (.row k 0 es)
  | iter (s : ByteArray) (pos : Nat) : OM m ρ ver (.iter s pos) (.iter s pos)
  | mp (ks : List Int) (vs vs' : List V) (h : SlR (VM m ρ) vs vs') : OM m ρ ver (.mp ks vs) (.mp ks vs')
  | mit (o c : Nat) (seen : List Nat) (t v : Nat) (h : ρ[t]? = some (o, v)) : OM m ρ ver (.mit o c seen) (.mit (m + t) c seen)

def TM (m : Nat) (ρ : List (Nat × Nat)) (ob ob' : OT) : Prop := ob'.length = m + ρ.length ∧ (∀ o x', o < m → getO ob' o = some x' → ∃ x, getO ob o = some x ∧ OLe m x x') ∧
  (∀ t i ver, ρ[t]? = some (i, ver) → m ≤ i ∧ ∀ x', getO ob' (m + t) = some x' → ∃ x, getO ob i = some x ∧ OM m ρ ver x x') ∧ (ρ.map (·.1)).Nodup

theorem Inv.move {F : Nat → Prop} {n0 : Nat} {w : World} {M : Mem} {G : Gh} {ρ : List (Nat × Nat)} {ob ob' : OT} (h5 : Inv F n0 w M G ob) (ho : TM m ρ ob ob') : Inv F n0 w M (mvG m ρ G) ob' := by
  obtain ⟨e1, e2, e3, e4⟩ := ho
  have low : ∀ {o}, o < m → mvG m ρ G o = G o := fun ho => mvG_lt ho
  -- each object comes from an elder one
  have hcase : ∀ {o x'}, getO ob' o = some x' → (o < m ∧ ∃ x, getO ob o = some x ∧ OLe m x x') ∨ ∃ t i ver x, o = m + t ∧ ρ[t]? = some (i, ver) ∧ m ≤ i ∧ getO ob i = some x ∧ OM m ρ ver x x' ∧ mvG m ρ G o = (G i).map (verG ver) := by
    intro o x' hx
    have hlt := getO_lt hx
    by_cases ho : o < m
    · obtain ⟨x, hx0, hle⟩ := e2 o x' ho hx
      exact .inl ⟨ho, x, hx0, hle⟩
    · have ht : o - m < ρ.length := by omega
      have hρ : ρ[o - m]? = some (ρ[o - m].1, ρ[o - m].2) := by simp [ht]
      obtain ⟨hm, hk⟩ := e3 (o - m) _ _ hρ
      obtain ⟨x, a1, a2⟩ := hk x' (by rw [show m + (o - m) = o by omega]; exact hx)
      refine .inr ⟨o - m, _, _, x, by omega, hρ, hm, a1, a2, ?_⟩
      have := mvG_at (m := m) (G := G) hρ
      rwa [show m + (o - m) = o by omega] at this
  have hblk : ∀ {o x' b}, getO ob' o = some x' → blkO (mvG m ρ G) o x' = some b → ∃ i x, getO ob i = some x ∧ blkO G i x = some b ∧ ((o < m ∧ i = o) ∨ (∃ t ver, o = m + t ∧ ρ[t]? = some (i, ver) ∧ m ≤ i)) := by
    intro o x' b hx hb
    rcases hcase hx with ⟨ho, x, hx0, hle⟩ | ⟨t, i, ver, x, rfl, hρ, hm, hi, hom, hg⟩
    · exact ⟨o, x, hx0, by cases hle <;> simpa [blkO, low ho] using hb, .inl ⟨ho, rfl⟩⟩
    · refine ⟨i, _, hi, ?_, .inr ⟨t, ver, rfl, hρ, hm⟩⟩
      cases hom <;> simp only [blkO, hg] at hb ⊢ <;> cases hG : G i with
      | none => simp [hG] at hb
      | some g => cases g <;> simp [hG, verG] at hb ⊢ <;> exact hb
  refine ⟨h5.mem, fun o x' hx => ?_, fun o o' x x' b hx hx' hb hb' => ?_, fun o x b hx hb => ?_, fun o x b hx hb => ?_, fun o g hg => ?_⟩
  · rcases hcase hx with ⟨ho, x, hx0, hle⟩ | ⟨t, i, ver, x, rfl, hρ, hm, hi, hom, hg⟩
    · have hO := h5.obj o x hx0
      have hg : mvG m ρ G o = G o := low ho
      cases hle with
      | box cs cs' hs =>
        cases hO with
        | box _ b arr T hg' hw hl hh' =>
          refine .box cs' b arr T (by rw [hg]; exact hg') hw (hl.trans hs.length) (fun j c hj => ?_)
          obtain ⟨v0, hv0, hR⟩ := hs.get hj
          have := hR M G _ (hh' j v0 hv0)
          have key : ∀ {c : V} {r : Value}, VR M (cutG m G) c r → VR M (mvG m ρ G) c r := fun h => h.mono (Mle.refl M) (fun o g hg => ⟨g, by obtain ⟨q1, q2⟩ := cutG_some hg; rw [low q1]; exact q2, GI.le_refl g⟩)
          exact key this
      | row k ver es =>
        cases hO with
        | row _ _ _ f ri b st arr T hg' hv' hmax hk hb hw hcap hlen he h => exact .row k ver es f ri b st arr T (by rw [hg]; exact hg') hv' hmax hk hb hw hcap hlen he h
        | nil _ _ f ri hg' hv' hmax hk hb hcap => exact .nil k ver f ri (by rw [hg]; exact hg') hv' hmax hk hb hcap
      | iter s pos =>
        cases hO with
        | iter _ _ b hg' hw => exact .iter s pos b (by rw [hg]; exact hg') hw
      | mp ks vs vs' hs =>
        cases hO with
        | mp _ _ b es hg' hw hk hbn hl hh' =>
          refine .mp ks vs' b es (by rw [hg]; exact hg') hw hk hbn (hs.length.symm.trans hl) (fun j c hj => ?_)
          obtain ⟨v0, hv0, hR⟩ := hs.get hj
          have := hR M G _ (hh' j v0 hv0)
          exact this.mono (Mle.refl M) (fun o g hg => ⟨g, by obtain ⟨q1, q2⟩ := cutG_some hg; rw [low q1]; exact q2, GI.le_refl g⟩)
      | mit mm c seen hmm =>
        cases hO with
        | mit _ _ _ b bm hg' hgm hw => exact .mit mm c seen b bm (by rw [hg]; exact hg') (by rw [low hmm]; exact hgm) hw
    · have hO := h5.obj i _ hi
      have hmx : ∀ (f : Nat → Option RI) (v : Nat), 0 < v → (if v = 0 then f ver else none) = none := fun f v hv => if_neg (by omega)
      cases hom with
      | box cs cs' hs =>
        cases hO with
        | box _ b arr T hg' hw hl hh' =>
          refine .box cs' b arr T (by rw [hg, hg']; rfl) hw (hl.trans hs.length) (fun j c hj => ?_)
          obtain ⟨v0, hv0, hR⟩ := hs.get hj
          exact hR M G _ (hh' j v0 hv0)
      | row k es =>
        cases hO with
        | row _ _ _ f ri b st arr T hg' hv' hmax hk hb hw hcap hlen he h => exact .row k 0 es (fun v => if v = 0 then f ver else none) ri b st arr T (by rw [hg, hg']; rfl) hv' (hmx f) hk hb hw hcap hlen he h
        | nil _ _ f ri hg' hv' hmax hk hb hcap => exact .nil k 0 (fun v => if v = 0 then f ver else none) ri (by rw [hg, hg']; rfl) hv' (hmx f) hk hb hcap
      | iter s pos =>
        cases hO with
        | iter _ _ b hg' hw => exact .iter s pos b (by rw [hg, hg']; rfl) hw
      | mp ks vs vs' hs =>
        cases hO with
        | mp _ _ b es hg' hw hk hbn hl hh' =>
          refine .mp ks vs' b es (by rw [hg, hg']; rfl) hw hk hbn (hs.length.symm.trans hl) (fun j c hj => ?_)
          obtain ⟨v0, hv0, hR⟩ := hs.get hj
          exact hR M G _ (hh' j v0 hv0)
      | mit o c seen t2 v2 h2 =>
        cases hO with
        | mit _ _ _ b bm hg' hgm hw => exact .mit (m + t2) c seen b bm (by rw [hg, hg']; rfl) (by rw [mvG_at h2, hgm]; rfl) hw
  · obtain ⟨i, y, hy, hbb, hh⟩ := hblk hx hb
    obtain ⟨i', y', hy', hbb', hh'⟩ := hblk hx' hb'
    have hi := h5.dis i i' y y' b hy hy' hbb hbb'
    subst hi
    rcases hh with ⟨ho, rfl⟩ | ⟨t, ver, rfl, ht, hm⟩ <;> rcases hh' with ⟨ho', h'⟩ | ⟨t', ver', rfl, ht', hm'⟩
    · exact h'
    · omega
    · omega
    · have : t = t' := by
        obtain ⟨hl, _⟩ := List.getElem?_eq_some_iff.1 ht
        have q1 : (ρ.map (·.1))[t]? = some i := by simp [ht]
        have q2 : (ρ.map (·.1))[t']? = some i := by simp [ht']
        exact (List.getElem?_inj (by simpa using hl) e4).1 (q1.trans q2.symm)
      rw [this]
  · obtain ⟨i, y, hy, hbb, _⟩ := hblk hx hb
    exact h5.off i y b hy hbb
  · obtain ⟨i, y, hy, hbb, _⟩ := hblk hx hb
    exact h5.own i y b hy hbb
  · rw [e1]
    unfold mvG at hg
    split at hg
    · omega
    · cases hr : ρ[o - m]? with
      | none => simp [hr] at hg
      | some i => have := (List.getElem?_eq_some_iff.1 hr).1; omega

theorem Rt.move {ρ : List (Nat × Nat)} {v v' : V} {ob ob' : OT} (hv : VM m ρ v v') (ho : TM m ρ ob ob') : Rt m v ob v' ob' := fun F n0 w M G0 G r h1 h2 h3 h4 h5 h6 =>
  ⟨M, mvG m ρ G, Mle.refl M, fun o g hg => by
      obtain ⟨g', a1, a2⟩ := h1 o g hg
      exact ⟨g', by rw [mvG_lt (h2 o g hg)]; exact a1, a2⟩, fun o ho hg => by rw [mvG_lt ho]; exact h3 o ho hg, by rw [ho.1]; omega, h5.move ho, hv M G r h6⟩

theorem Wk.move {L : Lg} {m' : Nat} {ρ : List (Nat × Nat)} {s s' : List V} {ob ob' : OT} (hm : m' ≤ m) (hs : SlR (VM m ρ) s s') (ho : TM m ρ ob ob') : Wk L m' ⟨s, ob⟩ ⟨s', ob'⟩ := by
  intro X a w hX ⟨M, G, R⟩
  refine ⟨M, mvG m ρ G, ⟨R.m, fun o g hg => ?_, R.inv.move ho, R.fr, R.glob, hs.length.symm.trans R.len, fun t v hv => ?_, fun o h1 h2 => ?_, ?_, R.size, R.defers, R.dom0⟩⟩
  · obtain ⟨g', a1, a2⟩ := R.g o g hg
    have := R.dom0 o g hg
    exact ⟨g', by rw [mvG_lt (by omega)]; exact a1, a2⟩
  · obtain ⟨v0, h0, hR⟩ := hs.get hv
    exact hR M G _ (R.slots t v0 h0)
  · rw [mvG_lt (by omega)]; exact R.free o h1 h2
  · show X.len0 ≤ ob'.length
    rw [ho.1]; omega
end
end Go.Ab
end
section
/- The rule for functions. -/
namespace Go.Ab
open Go

def retV (L : Lg) (E : E) : List ResultVar → Option (List V)
  | [] => some []
  | .tmp t :: r => match retV L E r with | some vs => some (E.slots.getD t .junk :: vs) | none => none
  | .cell a T :: r =>
    match opLoad L.τ L.γ (getO E.ob) T (E.slots.getD a .junk) with
    | some k => match retV L E r with | some vs => some (k.1 :: vs) | none => none
    | none => none
def ret1 : List V → V
  | [v] => v
  | vs => .tup vs

def rfun (tmps : Array Value) : ResultVar → Sem Value
  | .tmp t => pure (tmps.getD t undef)
  | .cell b t => do loadVar t (← asAddr (tmps.getD b undef))

section
variable {L : Lg}

theorem asAddr_load {T : TypeId} {r x : Value} {w : World} {a : Addr} (hr : r = .pointer (some a)) (h : (Instr.loadAt T r).run L.P w = .ok x w) : (do loadVar T (← asAddr r) : Sem Value).run L.P w = .ok x w := by
  subst hr
  simpa [Instr.loadAt, Instr.sureAddr, asAddr] using h

theorem retV_sound (O : Ok L) {X : Cx} {M : Mem} {G : Gh} {E : E} {a : Act} {w : World} (R : RelM L X M G E a w) : ∀ {rs : List ResultVar} {vs : List V}, retV L E rs = some vs →
    ∃ xs : List Value, (rs.mapM (rfun a.tmps) : Sem (List Value)).run L.P w = .ok xs w ∧ vs.length = xs.length ∧ ∀ (j : Nat) (c : V), vs[j]? = some c → VR M G c (xs.getD j undef)
  | [], vs, h => by
    simp only [retV, Option.some.injEq] at h; subst h
    exact ⟨[], by simp, rfl, fun j c hj => by simp at hj⟩
  | .tmp t :: r, vs, h => by
    simp only [retV] at h
    split at h
    · rename_i vs' hr
      simp only [Option.some.injEq] at h; subst h
      obtain ⟨xs, h1, h2, h3⟩ := retV_sound O R hr
      refine ⟨a.tmps.getD t undef :: xs, ?_, by simp [h2], fun j c hj => ?_⟩
      · rw [List.mapM_cons, Sem.run_bind, show (rfun a.tmps (.tmp t)).run L.P w = .ok (a.tmps.getD t undef) w from rfl, Result.andThen_ok, Sem.run_bind, h1]
        rfl
      · cases j with
        | zero => simp at hj; subst hj; exact evO_sound R.slots (.tmp t)
        | succ j => simpa using h3 j c (by simpa using hj)
    · simp at h
  | .cell b T :: r, vs, h => by
    simp only [retV] at h
    split at h
    · rename_i k hk
      split at h
      · rename_i vs' hr
        simp only [Option.some.injEq] at h; subst h
        obtain ⟨xs, h1, h2, h3⟩ := retV_sound O R hr
        have hb := evO_sound R.slots (.tmp b)
        obtain ⟨v, x, rfl, hx, hv⟩ := load_sound (P := L.P) O.agree R.inv R.glob hb hk
        have hp : ∃ ad, a.tmps.getD b undef = .pointer (some ad) := by
          have : (Instr.loadAt T (a.tmps.getD b undef)).run L.P w = .ok x w := hx
          generalize a.tmps.getD b undef = q at this
          cases q with
          | pointer p => cases p with
            | some ad => exact ⟨ad, rfl⟩
            | none => simp [Instr.loadAt, Instr.sureAddr] at this
          | _ => simp [Instr.loadAt, Instr.sureAddr] at this
        obtain ⟨ad, had⟩ := hp
        have hx' := asAddr_load had hx
        refine ⟨x :: xs, ?_, by simp [h2], fun j c hj => ?_⟩
        · rw [List.mapM_cons, Sem.run_bind, show (rfun a.tmps (.cell b T)).run L.P w = .ok x w from hx', Result.andThen_ok, Sem.run_bind, h1]
          rfl
        · cases j with
          | zero => simp at hj; subst hj; exact hv
          | succ j => simpa using h3 j c (by simpa using hj)
      · simp at h
    · simp at h

theorem results_sound (O : Ok L) {X : Cx} {M : Mem} {G : Gh} {E : E} {a : Act} {w : World} (R : RelM L X M G E a w) {fn : Func} {vs : List V} (h : retV L E fn.results.toList = some vs) :
    ∃ x, (results fn a.tmps).run L.P w = .ok x w ∧ VR M G (ret1 vs) x := by
  obtain ⟨xs, h1, h2, h3⟩ := retV_sound O R h
  have e : (results fn a.tmps).run L.P w = .ok (if h : xs.toArray.size = 1 then xs.toArray[0] else .tuple xs.toArray) w := by
    have e0 : results fn a.tmps = (do let vs ← fn.results.mapM (rfun a.tmps); pure (if h : vs.size = 1 then vs[0] else .tuple vs)) := by
      unfold results
      congr 1
    rw [e0, Array.mapM_eq_mapM_toList, map_eq_pure_bind]
    simp only [Sem.run_bind, h1, Result.andThen_ok]
    rfl
  refine ⟨_, e, ?_⟩
  match vs, xs, h2, h3 with
  | [], [], _, _ => exact .tup _ _ rfl (fun j c hj => by simp at hj)
  | [v], [x], _, h3 => exact h3 0 v rfl
  | v :: v' :: r, x :: x' :: q, h2, h3 =>
    have hne : ¬ (x :: x' :: q).toArray.size = 1 := by simp
    rw [dif_neg hne]
    refine .tup _ _ (by simpa using h2) (fun j c hj => ?_)
    have := h3 j c hj
    simpa [Array.getD_eq_getD_getElem?, List.getD_eq_getElem?_getD] using this

def Fin (L : Lg) (m : Nat) (fn : Func) (res : V) (ob' : OT) : Exit → E → Prop := fun e E =>
  match e with
  | .normal | .ret => ∃ vs, retV L E fn.results.toList = some vs ∧ Rt m (ret1 vs) E.ob res ob'
  | _ => False

def OBd (n : Nat) : O → Prop
  | .box cs => ∀ c ∈ cs, Bd n c
  | .mp _ vs => ∀ c ∈ vs, Bd n c
  | .mit o _ _ => o < n
  | _ => True

theorem Fin.post (O : Ok L) {X : Cx} {fn : Func} {res : V} {ob' : OT} {E : E} {a : Act} {w : World} {vs : List V} (h : retV L E fn.results.toList = some vs) (hR : Rt X.len0 (ret1 vs) E.ob res ob') (R : RelE L X E a w) :
    a.defers = [] ∧ ∃ r, (results fn a.tmps).run L.P w = .ok r w ∧ ∃ M' G', Mle X.M0 M' ∧ Gle X.G0 G' ∧ VR M' G' res r ∧ Inv X.F X.n0 w M' G' ob' ∧ FrS X.F X.n0 X.w0 w ∧ ∀ o, o < X.len0 → X.G0 o = none → G' o = none := by
  obtain ⟨M, G, R⟩ := R
  obtain ⟨x, h1, h2⟩ := results_sound O R h
  obtain ⟨M', G', a1, a2, a3, a4, a5, a6⟩ := hR X.F X.n0 w M X.G0 G x R.g R.dom0 R.free R.low R.inv h2
  exact ⟨R.defers, x, h1, M', G', R.m.trans a1, a2, a6, a5, R.fr, a3⟩

theorem valid_intro (O : Ok L) {f : FuncId} {fn : Func} {c : Code} (hf : L.P.funcs[f]? = some fn) (hname : (fn.name == "runtime.NumGoroutine") = false) (hb : fn.body = some c) {args : List V} {ob : OT} {res : V} {ob' : OT}
    (hlen : ob.length ≤ ob'.length)
    (h : (∀ c ∈ args, Bd ob.length c) → (∀ o x, getO ob o = some x → OBd ob.length x) → AWP L ob.length c ⟨args ++ List.replicate (fn.ntmps - args.length) .junk, ob⟩ (Fin L ob.length fn res ob')) : Valid L f args ob res ob' := by
  refine ⟨⟨fn, hf, hname, by simp [hb]⟩, hlen, fun w M G rs I hγ hl hv => ?_⟩
  have hbd : ∀ c ∈ args, Bd ob.length c := mem_idx (fun j c hj => (hv j c hj).bd I.dom)
  have hobd : ∀ o x, getO ob o = some x → OBd ob.length x := fun o x hx => by
    have := I.obj o x hx
    cases this with
    | box cs b arr T hg hw hl h => exact mem_idx (fun j c hj => (h j c hj).bd I.dom)
    | row => trivial
    | nil => trivial
    | iter => trivial
    | mp ks vs b es hg hw hk hbn hl h => exact mem_idx (fun j c hj => (h j c hj).bd I.dom)
    | mit m n seen b bm hg hm hw => exact I.dom m _ hm
  let X : Cx := ⟨w, M, G, FB G ob, w.heap.size, ob.length⟩
  let a : Act := { tmps := rs ++ Array.replicate (fn.ntmps - rs.size) undef, defers := [] }
  have R : RelM L X M G ⟨args ++ List.replicate (fn.ntmps - args.length) .junk, ob⟩ a w := by
    refine ⟨Mle.refl _, Gle.refl _, I, FrS.refl _ _ _, hγ, by simp [a, hl], fun t v ht => ?_, fun o _ h => h, Nat.le_refl _, Nat.le_refl _, rfl, I.dom⟩
    rcases Nat.lt_or_ge t args.length with hlt | hge
    · rw [List.getElem?_append_left hlt] at ht
      have := hv t v ht
      rw [Array.getD_eq_getD_getElem?] at this ⊢
      rwa [Array.getElem?_append_left (by omega)]
    · rw [List.getElem?_append_right hge] at ht
      have := List.mem_of_getElem? ht
      rw [List.mem_replicate] at this
      rw [this.2]
      exact .junk _
  refine calls_of_wp hf hb (wp_mono (h hbd hobd X a w rfl ⟨M, G, R⟩) fun e a' w' ⟨E', hq, hr⟩ => ?_)
  cases e with
  | normal =>
    obtain ⟨vs, h1, h2⟩ := hq
    obtain ⟨d, r, hr1, M', G', b1, b2, b3, b4, b5, b6⟩ := Fin.post O (X := X) h1 h2 hr
    exact ⟨d, r, hr1, r, M', G', rfl, b1, b2, b3, b4, b5, b6⟩
  | ret =>
    obtain ⟨vs, h1, h2⟩ := hq
    obtain ⟨d, r, hr1, M', G', b1, b2, b3, b4, b5, b6⟩ := Fin.post O (X := X) h1 h2 hr
    exact ⟨d, r, hr1, r, M', G', rfl, b1, b2, b3, b4, b5, b6⟩
  | _ => exact hq.elim
end
end Go.Ab
end
