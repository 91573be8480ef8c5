/- A machine that carries out the translated code on data, and why it is right, part 10 -/
import Derived.Laws.StructEq
import Derived.Orders
import Derived.Test.YtmceiidhhpcjkaaDoorA9
set_option linter.all false
section
/- The table of types, out of the program. -/
namespace Go.Ab
open Go

def tauOf (P : Program) (eqs ts : List Nat) : TT := fun T =>
  if ts.contains T then
    match P.underlying T, P.info? T with
    | some d, some inf =>
      match inf.zero with
      | some z => some ⟨d, inf.size, inf.bytes, z, eqs.contains T⟩
      | none => none
    | _, _ => none
  else none

def tauChk (P : Program) (ts : List Nat) : Bool := ts.all fun T =>
  match tauOf P [] ts T with
  | some i => i.zero.cells.size == i.size && i.zero.cells.toList.all oneV && (match i.d with | .struct fs => fs.toList.all (fun f => (tauOf P [] ts f.type).isSome) | _ => true)
  | none => true

theorem tauOf_nil {P : Program} {eqs ts : List Nat} {T : Nat} {i : TI} (h : tauOf P eqs ts T = some i) : tauOf P [] ts T = some { i with eq := false } ∧ T ∈ ts ∧ P.underlying T = some i.d ∧ (∃ inf, P.info? T = some inf ∧ inf.size = i.size ∧ inf.bytes = i.bytes ∧ inf.zero = some i.zero) ∧ i.eq = eqs.contains T := by
  unfold tauOf at h ⊢
  split at h
  · rename_i hT
    rw [if_pos hT]
    split at h
    · rename_i d inf hd hi
      split at h
      · rename_i z hz
        simp only [Option.some.injEq] at h
        subst h
        exact ⟨by simp, by simpa using hT, hd, ⟨inf, hi, rfl, rfl, hz⟩, rfl⟩
      · simp at h
    · simp at h
  · simp at h

theorem Agree.of {P : Program} {eqs ts : List Nat} (h : tauChk P ts = true) (he : ∀ T ∈ eqs, EqTy P T) : Agree P (tauOf P eqs ts) := by
  have key : ∀ {T i}, tauOf P eqs ts T = some i → i.zero.cells.size = i.size ∧ (∀ c ∈ i.zero.cells, oneV c = true) ∧ ∀ fs, i.d = .struct fs → ∀ f ∈ fs, (tauOf P [] ts f.type).isSome = true := by
    intro T i hi
    obtain ⟨h1, h2, _⟩ := tauOf_nil hi
    have := List.all_eq_true.1 h T h2
    rw [h1] at this
    simp only [Bool.and_eq_true, beq_iff_eq] at this
    obtain ⟨⟨a, b⟩, c⟩ := this
    refine ⟨a, fun x hx => List.all_eq_true.1 b x (by simpa using hx), fun fs hfs f hf => ?_⟩
    rw [hfs] at c
    exact List.all_eq_true.1 c f (by simpa using hf)
  refine ⟨fun T i hi => ?_, fun T i hi c hc => (key hi).2.1 c hc, fun T i fs hi hd f hf => ?_, fun T i hi heq => ?_⟩
  · obtain ⟨_, _, hu, ⟨inf, h1, h2, h3, h4⟩, _⟩ := tauOf_nil hi
    exact ⟨hu, inf, h1, h2, h3, h4, (key hi).1⟩
  · have := (key hi).2.2 fs hd f hf
    unfold tauOf at this ⊢
    split at this
    · rename_i hT
      rw [if_pos hT]
      split at this
      · rename_i d inf hd hi
        split at this
        · rename_i z hz
          exact ⟨_, rfl⟩
        · simp at this
      · simp at this
    · simp at this
  · obtain ⟨_, _, _, _, h5⟩ := tauOf_nil hi
    rw [heq] at h5
    exact he T (by simpa using h5.symm)

def flatF (P : Program) : Nat → List Field → List Value → Bool
  | _, [], [] => true
  | n, f :: r, z :: zs => f.name != "_" && f.offset == n && (match P.underlying f.type, z with | some (.int k), .int k' _ => k == k' | some .bool, .bool _ => true | some .string, .string _ => true | _, _ => false) && flatF P (n + 1) r zs
  | _, _, _ => false
def flatTy (P : Program) (T : TypeId) : Bool := !P.eqGuardType P.depth T && !P.stoodInHeld T &&
  (match P.underlying T, P.info? T with | some (.struct fs), some inf => (match inf.zero with | some z => flatF P 0 fs.toList z.cells.toList | none => false) | _, _ => false)
theorem toList_inj {s t : ByteArray} (h : s.toList = t.toList) : s = t := by
  rw [ByteArray.toList_eq, ByteArray.toList_eq] at h
  cases s with | mk a => cases t with | mk b => exact congrArg ByteArray.mk (Array.toList_inj.1 h)
theorem eqFields_flat {P : Program} (w : World) (d : Nat) (xs ys : Array Value) : ∀ (fs : List Field) (zs : List Value) (n : Nat) (b : Bool), flatF P n fs zs = true → likeL zs (xs.toList.drop n) = true → likeL zs (ys.toList.drop n) = true → eqVals (xs.toList.drop n) (ys.toList.drop n) = some b →
    (Op.eqFields (d + 1) xs ys fs).run P w = .ok b w
  | [], zs, n, b, hf, h1, h2, hv => by
    cases zs with
    | cons => simp [flatF] at hf
    | nil =>
      cases hx : xs.toList.drop n with
      | cons => rw [hx] at h1; simp [likeL] at h1
      | nil =>
        cases hy : ys.toList.drop n with
        | cons => rw [hy] at h2; simp [likeL] at h2
        | nil =>
          rw [hx, hy] at hv
          simp only [eqVals, Option.some.injEq] at hv
          subst hv
          simp [Op.eqFields]
  | f :: r, zs, n, b, hf, h1, h2, hv => by
    cases zs with
    | nil => simp [flatF] at hf
    | cons z zs =>
      simp only [flatF, Bool.and_eq_true, bne_iff_ne, ne_eq, beq_iff_eq] at hf
      obtain ⟨⟨⟨hn, ho⟩, hty⟩, hr⟩ := hf
      have l1 : n < xs.toList.length := by
        rcases Nat.lt_or_ge n xs.toList.length with h | h
        · exact h
        · rw [List.drop_of_length_le h] at h1; simp [likeL] at h1
      have l2 : n < ys.toList.length := by
        rcases Nat.lt_or_ge n ys.toList.length with h | h
        · exact h
        · rw [List.drop_of_length_le h] at h2; simp [likeL] at h2
      rw [List.drop_eq_getElem_cons l1] at h1
      rw [List.drop_eq_getElem_cons l2] at h2
      rw [List.drop_eq_getElem_cons l1, List.drop_eq_getElem_cons l2] at hv
      generalize hx : xs.toList[n] = x at hv h1
      generalize hy : ys.toList[n] = y at hv h2
      have hx' : xs[n]? = some x := by
        have l1' : n < xs.size := by simpa using l1
        rw [Array.getElem?_eq_getElem l1']
        simp at hx
        rw [hx]
      have hy' : ys[n]? = some y := by
        have l2' : n < ys.size := by simpa using l2
        rw [Array.getElem?_eq_getElem l2']
        simp at hy
        rw [hy]
      simp only [likeL, Bool.and_eq_true] at h1 h2
      unfold eqVals at hv
      split at hv
      · rename_i u v hu hv'
        simp only [Option.some.injEq] at hv
        subst hv
        have ih := eqFields_flat w d xs ys r zs (n + 1) v hr h1.2 h2.2 hv'
        have hpart : ∀ (zs : Array Value) (z : Value), zs[n]? = some z → (part f.type zs f.offset).run P w = .ok z w := by
          intro zs z hz
          rw [ho]
          unfold part isAgg
          cases hu' : P.underlying f.type with
          | none => simp [hu'] at hty
          | some dd => cases dd <;> simp_all [underlying]
        have heq : (Op.equalIn (d + 1) f.type x y).run P w = .ok u w := by
          cases hu' : P.underlying f.type with
          | none => simp [hu'] at hty
          | some dd =>
            simp only [hu'] at hty
            split at hty
            · rename_i k k' n0 he
              cases he
              have g1 := h1.1
              have g2 := h2.1
              cases x <;> simp only [like] at g1 <;> try (cases g1)
              cases y <;> simp only [like] at g2 <;> try (cases g2)
              rename_i k1 a k2 b
              simp only [beq_iff_eq] at g1 g2 hty
              subst g1 g2 hty
              simp only [eqLit, if_true, Option.some.injEq] at hu
              subst hu
              rw [run_equalIn_int w d f.type _ _ a b hu']
              by_cases h : a = b <;> simp [h]
            · rename_i b0 he
              cases he
              have g1 := h1.1
              have g2 := h2.1
              cases x <;> simp only [like] at g1 <;> try (cases g1)
              cases y <;> simp only [like] at g2 <;> try (cases g2)
              simp only [eqLit, Option.some.injEq] at hu
              subst hu
              rw [run_equalIn_bool' w d f.type _ _ hu']
            · rename_i s0 he
              cases he
              have g1 := h1.1
              have g2 := h2.1
              cases x <;> simp only [like] at g1 <;> try (cases g1)
              cases y <;> simp only [like] at g2 <;> try (cases g2)
              rename_i a b
              simp only [eqLit, Option.some.injEq] at hu
              subst hu
              rw [run_equalIn_string w d f.type _ _ hu']
              by_cases h : a = b
              · subst h; simp
              · have : a.toList ≠ b.toList := fun h' => h (toList_inj h')
                simp [h, this]
            · cases hty
        unfold Op.eqFields
        rw [if_pos hn, Sem.run_bind, hpart xs x hx']
        simp only [Result.andThen_ok]
        rw [Sem.run_bind, hpart ys y hy']
        simp only [Result.andThen_ok]
        rw [Sem.run_bind, heq]
        simp only [Result.andThen_ok]
        cases u
        · simp
        · simpa using ih
      · simp at hv
theorem EqTy.flat {P : Program} {T : TypeId} (h : flatTy P T = true) : EqTy P T := by
  simp only [flatTy, Bool.and_eq_true, Bool.not_eq_true'] at h
  obtain ⟨⟨h1, h2⟩, h3⟩ := h
  refine ⟨h1, fun inf z hi hz w xs ys b l1 l2 hv => ?_⟩
  cases hu : P.underlying T with
  | none => simp [hu] at h3
  | some dd =>
    cases dd with
    | struct fs =>
      simp only [hu, hi, hz] at h3
      show (Op.equalIn (9998 + 1 + 1) T (.agg xs) (.agg ys)).run P w = _
      rw [run_equalIn_struct w (9998 + 1) T xs ys (by simp [Program.fieldsOf, hu]) h2]
      have : P.fieldsOf T = fs := by simp [Program.fieldsOf, hu]
      rw [this]
      exact eqFields_flat w 9998 xs ys fs.toList _ 0 b h3 (by simpa using l1) (by simpa using l2) (by simpa using hv)
    | _ => simp [hu] at h3
end Go.Ab
end
section
/- The evaluator over sparse slots: the words by which a body is walked. -/
namespace Go.Ab
open Go

abbrev AS := List (Nat × V)
def lk : AS → Nat → V
  | [], _ => .junk
  | (d, v) :: r, t => if t = d then v else lk r t
def mkS (n : Nat) (as : AS) : List V := (List.range n).map (lk as)
def evA (n : Nat) (as : AS) : Operand → V
  | .tmp t => if t < n then lk as t else .junk
  | .const v => constV v
  | .global g => .glob g 0
  | .func f => .fn f [] []
def ins (d : Option Tmp) (v : V) (as : AS) : AS :=
  match d with
  | some d => (d, v) :: as
  | none => as

theorem evO_mkS (n : Nat) (as : AS) (x : Operand) : evO (mkS n as) x = evA n as x := by
  cases x <;> try rfl
  rename_i t
  simp only [evO, evA, mkS, List.getD_eq_getElem?_getD]
  by_cases h : t < n
  · simp [h]
  · simp [h]
theorem mkS_set (n : Nat) (as : AS) (d : Nat) (v : V) : (mkS n as).set d v = mkS n ((d, v) :: as) := by
  apply List.ext_getElem?
  intro i
  by_cases hi : i < n
  · by_cases hd : d = i
    · subst hd; simp [mkS, hi, lk]
    · rw [List.getElem?_set_ne hd]; simp [mkS, hi, lk, Ne.symm hd]
  · rw [List.getElem?_eq_none (by simp [mkS]; omega), List.getElem?_eq_none (by simp [mkS]; omega)]
theorem setSlot_mkS (n : Nat) (as : AS) (d : Option Tmp) (v : V) : setSlot (mkS n as) d v = mkS n (ins d v as) := by
  cases d with
  | none => rfl
  | some d => exact mkS_set n as d v

abbrev KC := Exit → AS → OT → Prop
def liftQ (n : Nat) (Q : KC) : Exit → E → Prop := fun e E => ∃ as ob, E = ⟨mkS n as, ob⟩ ∧ Q e as ob

def optK (o : Option K3) (f : K3 → Prop) : Prop := match o with | some k => f k | none => False
@[congr] theorem optK_congr {o o' : Option K3} {f : K3 → Prop} (h : o = o') : optK o f = optK o' f := by rw [h]
@[go_sem] theorem optK_ite {c : Prop} [Decidable c] (k : K3) (f : K3 → Prop) : optK (if c then some k else none) f = (c ∧ optK (some k) f) := by by_cases h : c <;> simp [h, optK]
@[go_sem] theorem optK_ite' {c : Prop} [Decidable c] (k : K3) (f : K3 → Prop) : optK (if c then none else some k) f = (¬ c ∧ optK (some k) f) := by by_cases h : c <;> simp [h, optK]
@[go_sem] theorem optK_none (f : K3 → Prop) : optK none f = False := rfl

def brV (v : V) (b : Bool) (P S Z : Prop) : Prop :=
  match v with
  | .tr (.lit (.bool x)) => (x = b → P) ∧ (x = !b → S)
  | .tup [] => Z
  | _ => False
@[congr] theorem brV_congr {v v' : V} {b : Bool} {P S Z : Prop} (h : v = v') : brV v b P S Z = brV v' b P S Z := by rw [h]
section
variable {P S Z : Prop}
@[go_sem] theorem brV_tt : brV (vbool true) true P S Z = P := by simp [brV]
@[go_sem] theorem brV_ff : brV (vbool false) false P S Z = P := by simp [brV]
@[go_sem] theorem brV_tf : brV (vbool true) false P S Z = S := by simp [brV]
@[go_sem] theorem brV_ft : brV (vbool false) true P S Z = S := by simp [brV]
@[go_sem low] theorem brV_t {x : Bool} : brV (vbool x) true P S Z = ((x = true → P) ∧ (x = false → S)) := by simp [brV]
@[go_sem low] theorem brV_f {x : Bool} : brV (vbool x) false P S Z = ((x = false → P) ∧ (x = true → S)) := by simp [brV]
@[go_sem] theorem brV_tup {b : Bool} : brV (.tup []) b P S Z = Z := rfl
end

def gdst (all : List Oper) (j : Nat) : Option Tmp := (all[j]?).bind (·.dst)
def gv (n : Nat) (all : List Oper) (as : AS) (j : Nat) : V := match gdst all j with | some d => evA n as (.tmp d) | none => .junk

def callV (L : Lg) (f : V) (args : List V) (ob : OT) (K : V → OT → Prop) : Prop :=
  match f with
  | .fn g fs cs => ∃ res ob', Valid L g (fs ++ (args ++ cs)) ob res ob' ∧ K res ob'
  | _ => False
@[congr] theorem callV_congr {L : Lg} {f f' : V} {args args' : List V} {ob ob' : OT} {K : V → OT → Prop} (h1 : f = f') (h2 : args = args') (h3 : ob = ob') : callV L f args ob K = callV L f' args' ob' K := by rw [h1, h2, h3]
def nilQ (τ : TT) (T : TypeId) (p : Option (Nat × List (List Tr))) (K : Bool → Prop) : Prop := isSl τ T = true ∧ ∃ k es, p = some (k, es) ∧ ∀ b, (b = true → es = []) → K b
@[congr] theorem nilQ_congr {τ : TT} {T : TypeId} {p p' : Option (Nat × List (List Tr))} {K : Bool → Prop} (h : p = p') : nilQ τ T p K = nilQ τ T p' K := by rw [h]

def run (L : Lg) (n : Nat) (all : List Oper) : List Oper → AS → OT → KC → Prop
  | [], as, ob, Q => Q .normal as ob
  | o :: r, as, ob, Q =>
    let body : AS → Prop := fun as => match nilC o.op with
      | some (T, x, e) => nilQ L.τ T (rdS (getO ob) (evA n as x)) (fun b => run L n all r (ins o.dst (vbool (b == e)) as) ob Q)
      | none => (match o.op with
        | .call { callee := .value f, args, .. } => callV L (evA n as f) (args.toList.map (evA n as)) ob (fun res ob' => run L n all r (ins o.dst res as) ob' Q)
        | op => optK (Ab.step L.τ L.γ (mkS n as) (getO ob) ob.length op) (fun k => run L n all r (ins o.dst k.1 as) (tab ob k) Q))
    match o.guard with
    | none => body as
    | some (j, b) => brV (gv n all as j) b (body (ins (gdst all j) (vbool b) as)) (run L n all r (ins o.dst (.tup []) (ins (gdst all j) (vbool !b) as)) ob Q) (run L n all r (ins o.dst (.tup []) as) ob Q)
def runOp (L : Lg) (n : Nat) (all : List Oper) (op : Op) (d : Option Tmp) (r : List Oper) (as : AS) (ob : OT) (Q : KC) : Prop :=
  match op with
  | .call { callee := .value f, args, .. } => callV L (evA n as f) (args.toList.map (evA n as)) ob (fun res ob' => run L n all r (ins d res as) ob' Q)
  | op => optK (Ab.step L.τ L.γ (mkS n as) (getO ob) ob.length op) (fun k => run L n all r (ins d k.1 as) (tab ob k) Q)
def runX (L : Lg) (n : Nat) (all : List Oper) (op : Op) (d : Option Tmp) (r : List Oper) (as : AS) (ob : OT) (Q : KC) : Prop :=
  match nilC op with
  | some (T, x, e) => nilQ L.τ T (rdS (getO ob) (evA n as x)) (fun b => run L n all r (ins d (vbool (b == e)) as) ob Q)
  | none => runOp L n all op d r as ob Q

theorem perf_runOp {L : Lg} {n : Nat} {all : List Oper} {op : Op} {d : Option Tmp} {r : List Oper} {as : AS} {ob : OT} {Q : KC} (h : runOp L n all op d r as ob Q) :
    perf L (mkS n as) ob op fun v ob' => run L n all r (ins d v as) ob' Q := by
  unfold runOp at h
  unfold perf
  split at h
  · rename_i f args _
    simp only [evO_mkS]
    unfold callV at h
    split at h
    · rename_i g fs cs hf
      simp only [hf]
      have e : evO (mkS n as) = evA n as := funext (evO_mkS n as)
      rw [e]
      exact h
    · exact h.elim
  · rename_i hne
    split
    · rename_i f args _ 
      exact absurd rfl (hne _ _ _)
    · unfold optK at h
      split at h <;> rename_i hk
      · simp only [hk]; exact h
      · exact h.elim

theorem run_sound {L : Lg} {n : Nat} {all : List Oper} {Q : KC} : ∀ {ops : List Oper} {as : AS} {ob : OT}, run L n all ops as ob Q → aOps L all ops ⟨mkS n as, ob⟩ (liftQ n Q .normal)
  | [], as, ob, h => by
    unfold run at h
    exact ⟨as, ob, rfl, h⟩
  | o :: r, as, ob, h => by
    have hrun : run L n all (o :: r) as ob Q = (match o.guard with
      | none => runX L n all o.op o.dst r as ob Q
      | some (j, b) => brV (gv n all as j) b (runX L n all o.op o.dst r (ins (gdst all j) (vbool b) as) ob Q) (run L n all r (ins o.dst (.tup []) (ins (gdst all j) (vbool !b) as)) ob Q) (run L n all r (ins o.dst (.tup []) as) ob Q)) := rfl
    rw [hrun] at h
    unfold aOps
    have hperf' : ∀ as, runX L n all o.op o.dst r as ob Q → (match nilC o.op with
        | some (T, x, e) => isSl L.τ T = true ∧ ∃ k es, rdS (getO ob) (evO (mkS n as) x) = some (k, es) ∧ ∀ b, (b = true → es = []) → aOps L all r ⟨setSlot (mkS n as) o.dst (vbool (b == e)), ob⟩ (liftQ n Q .normal)
        | none => perf L (mkS n as) ob o.op fun v ob' => aOps L all r ⟨setSlot (mkS n as) o.dst v, ob'⟩ (liftQ n Q .normal)) := fun as h => by
      unfold runX at h
      split at h
      · rename_i T x e hn
        obtain ⟨hT, k, es, h1, h2⟩ := h
        refine ⟨hT, k, es, by rw [evO_mkS]; exact h1, fun b hb => ?_⟩
        rw [setSlot_mkS]
        exact run_sound (h2 b hb)
      have := perf_runOp h
      have key : ∀ v ob', run L n all r (ins o.dst v as) ob' Q → aOps L all r ⟨setSlot (mkS n as) o.dst v, ob'⟩ (liftQ n Q .normal) := fun v ob' h => by rw [setSlot_mkS]; exact run_sound h
      unfold perf at this ⊢
      split at this
      · split at this
        · obtain ⟨res, ob', h1, h2⟩ := this
          exact ⟨res, ob', h1, key _ _ h2⟩
        · exact this.elim
      · split at this
        · exact key _ _ this
        · exact this.elim
    have hperf := hperf' as
    cases hg : o.guard with
    | none =>
      have hw : wnt all (mkS n as) o = some true := by simp [wnt, hg]
      simp only [hg] at h
      simp only [hw]
      exact hperf h
    | some p =>
      obtain ⟨j, b⟩ := p
      simp only [hg] at h
      have hgv : ∀ {v}, gv n all as j = v → v ≠ .junk → ∃ oj d, all[j]? = some oj ∧ oj.dst = some d ∧ (mkS n as)[d]? = some v := by
        intro v hv hne
        unfold gv gdst at hv
        cases ho : all[j]? with
        | none => simp [ho] at hv; exact absurd hv.symm hne
        | some oj =>
          cases hd : oj.dst with
          | none => simp [ho, hd] at hv; exact absurd hv.symm hne
          | some d =>
            simp only [ho, hd, Option.bind_some, evA] at hv
            by_cases hlt : d < n
            · refine ⟨oj, d, rfl, hd, ?_⟩
              rw [if_pos hlt] at hv
              simp [mkS, hlt, hv]
            · rw [if_neg hlt] at hv; exact absurd hv.symm hne
      unfold brV at h
      split at h
      · rename_i x hv
        obtain ⟨oj, d, h1, h2, h3⟩ := hgv hv (by simp)
        have hw : wnt all (mkS n as) o = some (x == b) := by simp [wnt, hg, h1, h2, h3]
        simp only [hw]
        have hsame : ∀ y, x = y → mkS n (ins (gdst all j) (vbool y) as) = mkS n as := by
          intro y hy
          subst hy
          have hd : gdst all j = some d := by simp [gdst, h1, h2]
          rw [hd, ← setSlot_mkS]
          apply List.ext_getElem?
          intro i
          by_cases hi : d = i
          · subst hi
            have hlt : d < (mkS n as).length := (List.getElem?_eq_some_iff.1 h3).1
            simp only [setSlot]
            rw [List.getElem?_set_self hlt, h3]
          · simp only [setSlot]
            rw [List.getElem?_set_ne hi]
        by_cases hx : x = b
        · have : (x == b) = true := by simpa using hx
          simp only [this]
          have := hperf' _ (h.1 hx)
          rw [hsame b hx] at this
          exact this
        · have : (x == b) = false := by simpa using hx
          have hn : x = !b := by cases x <;> cases b <;> simp_all
          simp only [this]
          have := run_sound (h.2 hn)
          rw [← setSlot_mkS, hsame _ hn] at this
          exact this
      · rename_i hv
        obtain ⟨oj, d, h1, h2, h3⟩ := hgv hv (by simp)
        have hw : wnt all (mkS n as) o = some false := by simp [wnt, hg, h1, h2, h3]
        simp only [hw]
        rw [setSlot_mkS]
        exact run_sound h
      · exact h.elim

@[congr] theorem run_congr {L : Lg} {n : Nat} {all ops : List Oper} {as as' : AS} {ob ob' : OT} {Q : KC} (h1 : as = as') (h2 : ob = ob') : run L n all ops as ob Q = run L n all ops as' ob' Q := by rw [h1, h2]
@[congr] theorem runOp_congr {L : Lg} {n : Nat} {all r : List Oper} {op : Op} {d : Option Tmp} {as as' : AS} {ob ob' : OT} {Q : KC} (h1 : as = as') (h2 : ob = ob') : runOp L n all op d r as ob Q = runOp L n all op d r as' ob' Q := by rw [h1, h2]

section
variable {L : Lg} {n : Nat} {all r : List Oper} {as : AS} {ob : OT} {Q : KC} {d : Option Tmp} {ty : TypeId} {pos : String} {af : Array Edge}
@[go_sem] theorem run_nil : run L n all [] as ob Q = Q .normal as ob := rfl
@[go_sem] theorem run_free {op : Op} : run L n all (⟨d, op, ty, pos, af, none⟩ :: r) as ob Q = runX L n all op d r as ob Q := rfl
def brG (L : Lg) (n : Nat) (all r : List Oper) (op : Op) (d : Option Tmp) (as : AS) (ob : OT) (Q : KC) (j : Nat) (b : Bool) (v : V) : Prop :=
  brV v b (runX L n all op d r (ins (gdst all j) (vbool b) as) ob Q) (run L n all r (ins d (.tup []) (ins (gdst all j) (vbool !b) as)) ob Q) (run L n all r (ins d (.tup []) as) ob Q)
@[go_sem] theorem run_grd {op : Op} {j : Nat} {b : Bool} : run L n all (⟨d, op, ty, pos, af, some (j, b)⟩ :: r) as ob Q = brG L n all r op d as ob Q j b (gv n all as j) := rfl
section
variable {op : Op} {j : Nat}
@[go_sem] theorem brG_tt : brG L n all r op d as ob Q j true (vbool true) = runX L n all op d r (ins (gdst all j) (vbool true) as) ob Q := brV_tt
@[go_sem] theorem brG_ff : brG L n all r op d as ob Q j false (vbool false) = runX L n all op d r (ins (gdst all j) (vbool false) as) ob Q := brV_ff
@[go_sem] theorem brG_tf : brG L n all r op d as ob Q j false (vbool true) = run L n all r (ins d (.tup []) (ins (gdst all j) (vbool true) as)) ob Q := brV_tf
@[go_sem] theorem brG_ft : brG L n all r op d as ob Q j true (vbool false) = run L n all r (ins d (.tup []) (ins (gdst all j) (vbool false) as)) ob Q := brV_ft
@[go_sem low] theorem brG_t {x : Bool} : brG L n all r op d as ob Q j true (vbool x) = ((x = true → runX L n all op d r (ins (gdst all j) (vbool true) as) ob Q) ∧ (x = false → run L n all r (ins d (.tup []) (ins (gdst all j) (vbool false) as)) ob Q)) := brV_t
@[go_sem low] theorem brG_f {x : Bool} : brG L n all r op d as ob Q j false (vbool x) = ((x = false → runX L n all op d r (ins (gdst all j) (vbool false) as) ob Q) ∧ (x = true → run L n all r (ins d (.tup []) (ins (gdst all j) (vbool true) as)) ob Q)) := brV_f
@[go_sem] theorem brG_tup {b : Bool} : brG L n all r op d as ob Q j b (.tup []) = run L n all r (ins d (.tup []) as) ob Q := rfl
end
@[congr] theorem runX_congr {op : Op} {as' : AS} {ob' : OT} (h1 : as = as') (h2 : ob = ob') : runX L n all op d r as ob Q = runX L n all op d r as' ob' Q := by rw [h1, h2]
def cN (L : Lg) (n : Nat) (all r : List Oper) (d : Option Tmp) (as : AS) (ob : OT) (Q : KC) (e : Bool) : Bool → Prop := fun b => run L n all r (ins d (vbool (b == e)) as) ob Q
@[go_sem] theorem runX_eqN {T yT : TypeId} {x : Operand} : runX L n all (.binOp .eql T x (.const (.slice none 0 0)) yT) d r as ob Q = nilQ L.τ T (rdS (getO ob) (evA n as x)) (cN L n all r d as ob Q true) := rfl
@[go_sem] theorem runX_neN {T yT : TypeId} {x : Operand} : runX L n all (.binOp .neq T x (.const (.slice none 0 0)) yT) d r as ob Q = nilQ L.τ T (rdS (getO ob) (evA n as x)) (cN L n all r d as ob Q false) := rfl
theorem runOp_step {op : Op} (h : ∀ f args ts, op ≠ .call { callee := .value f, args := args, argTypes := ts }) : runOp L n all op d r as ob Q = optK (Ab.step L.τ L.γ (mkS n as) (getO ob) ob.length op) (fun k => run L n all r (ins d k.1 as) (tab ob k) Q) := by
  unfold runOp
  split
  · exact absurd rfl (h _ _ _)
  · rfl
def cK (L : Lg) (n : Nat) (all r : List Oper) (d : Option Tmp) (as : AS) (ob : OT) (Q : KC) : K3 → Prop := fun k => run L n all r (ins d k.1 as) (tab ob k) Q
def cV (L : Lg) (n : Nat) (all r : List Oper) (d : Option Tmp) (as : AS) (Q : KC) : V → OT → Prop := fun res ob' => run L n all r (ins d res as) ob' Q
def cP (L : Lg) (n : Nat) (all r : List Oper) (d : Option Tmp) (as : AS) (ob : OT) (Q : KC) : V → Prop := fun v => run L n all r (ins d v as) ob Q
@[go_sem] theorem optK_cK {k : K3} : optK (some k) (cK L n all r d as ob Q) = run L n all r (ins d k.1 as) (tab ob k) Q := rfl
@[go_sem] theorem cV_eq {v : V} {ob' : OT} : cV L n all r d as Q v ob' = run L n all r (ins d v as) ob' Q := rfl
@[go_sem] theorem cP_eq {v : V} : cP L n all r d as ob Q v = run L n all r (ins d v as) ob Q := rfl
theorem tab_nil {v : V} : tab ob (v, [], none) = ob := rfl
@[go_sem] theorem runOp_move {x : Operand} : runOp L n all (.move x) d r as ob Q = run L n all r (ins d (evA n as x) as) ob Q := by rw [runOp_step (by simp)]; simp [Ab.step, optK, evO_mkS, tab_nil]
@[go_sem] theorem runOp_assign {x : Operand} : runOp L n all (.assign x) d r as ob Q = run L n all r (ins d (evA n as x) as) ob Q := by rw [runOp_step (by simp)]; simp [Ab.step, optK, evO_mkS, tab_nil]
@[go_sem] theorem runOp_call {f : Operand} {args : Array Operand} {ts : Array TypeId} : runOp L n all (.call { callee := .value f, args := args, argTypes := ts }) d r as ob Q = callV L (evA n as f) (args.toList.map (evA n as)) ob (cV L n all r d as Q) := rfl

def pickV (c a b : V) (f : V → Prop) : Prop := match c with | .tr (.lit (.bool t)) => (t = true → f a) ∧ (t = false → f b) | _ => False
@[congr] theorem pickV_congr {c c' a a' b b' : V} {f : V → Prop} (h : c = c') (h1 : a = a') (h2 : b = b') : pickV c a b f = pickV c' a' b' f := by rw [h, h1, h2]
@[go_sem] theorem pickV_t {a b : V} {f : V → Prop} : pickV (vbool true) a b f = f a := by simp [pickV]
@[go_sem] theorem pickV_f {a b : V} {f : V → Prop} : pickV (vbool false) a b f = f b := by simp [pickV]
@[go_sem low] theorem pickV_b {t : Bool} {a b : V} {f : V → Prop} : pickV (vbool t) a b f = ((t = true → f a) ∧ (t = false → f b)) := rfl
@[go_sem] theorem runOp_pick {c a b : Operand} : runOp L n all (.pick c a b) d r as ob Q = pickV (evA n as c) (evA n as a) (evA n as b) (cP L n all r d as ob Q) := by
  show _ = pickV (evA n as c) (evA n as a) (evA n as b) (fun v => run L n all r (ins d v as) ob Q)
  rw [runOp_step (by simp)]
  unfold pickV
  simp only [Ab.step, evO_mkS]
  split
  · rename_i t ht
    cases t <;> simp [optK, tab_nil, ht]
  · simp [optK]
end
end Go.Ab
end
section
/- The evaluator over code. -/
namespace Go.Ab
open Go

def brC (v : V) (P S : Prop) : Prop := match v with | .tr (.lit (.bool x)) => (x = true → P) ∧ (x = false → S) | _ => False
@[congr] theorem brC_congr {v v' : V} {P S : Prop} (h : v = v') : brC v P S = brC v' P S := by rw [h]
@[go_sem] theorem brC_t {P S : Prop} : brC (vbool true) P S = P := by simp [brC]
@[go_sem] theorem brC_f {P S : Prop} : brC (vbool false) P S = S := by simp [brC]
@[go_sem low] theorem brC_b {x : Bool} {P S : Prop} : brC (vbool x) P S = ((x = true → P) ∧ (x = false → S)) := rfl

def W (L : Lg) (m n : Nat) : Code → AS → OT → KC → Prop
  | .skip, as, ob, Q => Q .normal as ob
  | .region i ops dr, as, ob, Q => if dr then AWP L m (.region i ops dr) ⟨mkS n as, ob⟩ (liftQ n Q) else run L n ops.toList ops.toList as ob Q
  | .seq a b, as, ob, Q => W L m n a as ob (fun e as ob => match e with | .normal => W L m n b as ob Q | e => Q e as ob)
  | .cond c a b, as, ob, Q => brC (evA n as c) (W L m n a as ob Q) (W L m n b as ob Q)
  | .block id c, as, ob, Q => W L m n c as ob (fun e as ob => match e with | .exit id' => if id' = id then Q .normal as ob else Q (.exit id') as ob | e => Q e as ob)
  | .exit id, as, ob, Q => Q (.exit id) as ob
  | .ret, as, ob, Q => Q .ret as ob
  | c, as, ob, Q => AWP L m c ⟨mkS n as, ob⟩ (liftQ n Q)
@[congr] theorem W_congr {L : Lg} {m n : Nat} {c : Code} {as as' : AS} {ob ob' : OT} {Q : KC} (h1 : as = as') (h2 : ob = ob') : W L m n c as ob Q = W L m n c as' ob' Q := by rw [h1, h2]

def kSeq (L : Lg) (m n : Nat) (y : Code) (Q : KC) : KC := fun e as ob => match e with | .normal => W L m n y as ob Q | e => Q e as ob
def kBlk (id : Nat) (Q : KC) : KC := fun e as ob => match e with | .exit id' => if id' = id then Q .normal as ob else Q (.exit id') as ob | e => Q e as ob

section
variable {L : Lg} {m n : Nat} {as : AS} {ob : OT} {Q : KC}
@[congr] theorem kSeq_congr {y : Code} {e : Exit} {as' : AS} {ob' : OT} (h1 : as = as') (h2 : ob = ob') : kSeq L m n y Q e as ob = kSeq L m n y Q e as' ob' := by rw [h1, h2]
@[congr] theorem kBlk_congr {id : Nat} {e : Exit} {as' : AS} {ob' : OT} (h1 : as = as') (h2 : ob = ob') : kBlk id Q e as ob = kBlk id Q e as' ob' := by rw [h1, h2]
@[go_sem] theorem W_skip : W L m n .skip as ob Q = Q .normal as ob := rfl
@[go_sem] theorem W_region {i : Nat} {ops : Array Oper} : W L m n (.region i ops false) as ob Q = run L n ops.toList ops.toList as ob Q := by simp [W]
@[go_sem] theorem W_seq {a b : Code} : W L m n (.seq a b) as ob Q = W L m n a as ob (kSeq L m n b Q) := rfl
@[go_sem] theorem W_cond {c : Operand} {a b : Code} : W L m n (.cond c a b) as ob Q = brC (evA n as c) (W L m n a as ob Q) (W L m n b as ob Q) := rfl
@[go_sem] theorem W_block {id : Nat} {c : Code} : W L m n (.block id c) as ob Q = W L m n c as ob (kBlk id Q) := rfl
@[go_sem] theorem W_exit {id : Nat} : W L m n (.exit id) as ob Q = Q (.exit id) as ob := rfl
@[go_sem] theorem W_ret : W L m n .ret as ob Q = Q .ret as ob := rfl
@[go_sem] theorem kSeq_n {y : Code} : kSeq L m n y Q .normal as ob = W L m n y as ob Q := rfl
@[go_sem] theorem kSeq_e {y : Code} {i : Nat} : kSeq L m n y Q (.exit i) as ob = Q (.exit i) as ob := rfl
@[go_sem] theorem kSeq_r {y : Code} : kSeq L m n y Q .ret as ob = Q .ret as ob := rfl
@[go_sem] theorem kBlk_n {id : Nat} : kBlk id Q .normal as ob = Q .normal as ob := rfl
@[go_sem] theorem kBlk_r {id : Nat} : kBlk id Q .ret as ob = Q .ret as ob := rfl
@[go_sem] theorem kBlk_e {id i : Nat} : kBlk id Q (.exit i) as ob = if i = id then Q .normal as ob else Q (.exit i) as ob := rfl

theorem W_sound (O : Ok L) : ∀ {c : Code} {as : AS} {ob : OT} {Q : KC}, W L m n c as ob Q → AWP L m c ⟨mkS n as, ob⟩ (liftQ n Q)
  | .skip, as, ob, Q, h => awp_skip ⟨as, ob, rfl, h⟩
  | .region i ops dr, as, ob, Q, h => by
    unfold W at h
    cases dr with
    | true => exact h
    | false => exact awp_region O (run_sound h)
  | .seq a b, as, ob, Q, h => awp_seq ((W_sound O (c := a) h).mono fun e E' ⟨as', ob', he, hq⟩ => by
      subst he
      cases e with
      | normal => exact W_sound O (c := b) hq
      | _ => exact ⟨as', ob', rfl, hq⟩)
  | .cond c a b, as, ob, Q, h => by
    unfold W brC at h
    split at h
    · rename_i x hx
      refine awp_cond (t := x) (by rw [evO_mkS]; exact hx) ?_
      cases x
      · exact W_sound O (c := b) (h.2 rfl)
      · exact W_sound O (c := a) (h.1 rfl)
    · exact h.elim
  | .block id c, as, ob, Q, h => awp_block ((W_sound O (c := c) h).mono fun e E' ⟨as', ob', he, hq⟩ => by
      subst he
      cases e with
      | exit id' =>
        simp only [EBlock]
        simp only at hq
        split
        · rename_i hid; rw [if_pos hid] at hq; exact ⟨as', ob', rfl, hq⟩
        · rename_i hid; rw [if_neg hid] at hq; exact ⟨as', ob', rfl, hq⟩
      | _ => exact ⟨as', ob', rfl, hq⟩)
  | .exit id, as, ob, Q, h => awp_exit ⟨as, ob, rfl, h⟩
  | .ret, as, ob, Q, h => awp_ret ⟨as, ob, rfl, h⟩
  | .loop c, as, ob, Q, h => h
  | .rangeFunc .., as, ob, Q, h => h
  | .scope .., as, ob, Q, h => h
  | .label .., as, ob, Q, h => h
  | .goto .., as, ob, Q, h => h
  | .refuse .., as, ob, Q, h => h

def To (L : Lg) (m n : Nat) (as : AS) (ob : OT) (as' : AS) (ob' : OT) : Prop := Wk L m ⟨mkS n as, ob⟩ ⟨mkS n as', ob'⟩
theorem To.refl (as : AS) (ob : OT) : To L m n as ob as ob := Wk.refl _ _
theorem To.trans {a b c : AS} {x y z : OT} (h : To L m n a x b y) (k : To L m n b y c z) : To L m n a x c z := Wk.trans h k

def kLoop (L : Lg) (m n : Nat) (I : Nat → AS → OT → Prop) (k : Nat) (Q : KC) : KC := fun e as ob => match e with
  | .normal => ∃ k' as' ob', k' < k ∧ To L m n as ob as' ob' ∧ I k' as' ob'
  | e => Q e as ob
@[go_sem] theorem kLoop_n {I : Nat → AS → OT → Prop} {k : Nat} : kLoop L m n I k Q .normal as ob = ∃ k' as' ob', k' < k ∧ To L m n as ob as' ob' ∧ I k' as' ob' := rfl
@[go_sem] theorem kLoop_e {I : Nat → AS → OT → Prop} {k i : Nat} : kLoop L m n I k Q (.exit i) as ob = Q (.exit i) as ob := rfl
@[go_sem] theorem kLoop_r {I : Nat → AS → OT → Prop} {k : Nat} : kLoop L m n I k Q .ret as ob = Q .ret as ob := rfl

def argS : Nat → List V → AS
  | _, [] => []
  | i, v :: r => (i, v) :: argS (i + 1) r
theorem argS_lk : ∀ (vs : List V) (i t : Nat), lk (argS i vs) (i + t) = vs.getD t .junk
  | [], i, t => by simp [argS, lk]
  | v :: r, i, 0 => by simp [argS, lk]
  | v :: r, i, t + 1 => by
    have := argS_lk r (i + 1) t
    have e : i + (t + 1) = i + 1 + t := by omega
    simp only [argS, lk]
    rw [if_neg (by omega), e, this]
    simp
theorem mkS_args {vs : List V} {n : Nat} (h : vs.length ≤ n) : vs ++ List.replicate (n - vs.length) .junk = mkS n (argS 0 vs) := by
  apply List.ext_getElem?
  intro i
  by_cases hi : i < n
  · have := argS_lk vs 0 i
    simp only [Nat.zero_add] at this
    simp only [mkS, List.getElem?_map, List.getElem?_range hi, Option.map_some, this]
    rcases Nat.lt_or_ge i vs.length with hl | hl
    · rw [List.getElem?_append_left hl]; simp [hl]
    · rw [List.getElem?_append_right hl, List.getElem?_replicate, if_pos (by omega)]; simp [hl]
  · rw [List.getElem?_eq_none (by simp; omega), List.getElem?_eq_none (by simp [mkS]; omega)]

def retA (L : Lg) (n : Nat) (as : AS) (ob : OT) : List ResultVar → Option (List V)
  | [] => some []
  | .tmp t :: r => match retA L n as ob r with | some vs => some (evA n as (.tmp t) :: vs) | none => none
  | .cell a T :: r =>
    match opLoad L.τ L.γ (getO ob) T (evA n as (.tmp a)) with
    | some k => match retA L n as ob r with | some vs => some (k.1 :: vs) | none => none
    | none => none
theorem retA_eq (rs : List ResultVar) : retV L ⟨mkS n as, ob⟩ rs = retA L n as ob rs := by
  have key : ∀ t, (mkS n as).getD t .junk = evA n as (.tmp t) := fun t => evO_mkS n as (.tmp t)
  induction rs with
  | nil => rfl
  | cons x r ih => cases x <;> (simp only [retV, retA, ih, key]; rfl)

def kFin (L : Lg) (m n : Nat) (rs : List ResultVar) (res : V) (ob' : OT) : KC := fun e as ob => match e with
  | .normal | .ret => ∃ vs, retA L n as ob rs = some vs ∧ Rt m (ret1 vs) ob res ob'
  | _ => False
@[go_sem] theorem kFin_n {rs : List ResultVar} {res : V} {ob' : OT} : kFin L m n rs res ob' .normal as ob = ∃ vs, retA L n as ob rs = some vs ∧ Rt m (ret1 vs) ob res ob' := rfl
@[go_sem] theorem kFin_r {rs : List ResultVar} {res : V} {ob' : OT} : kFin L m n rs res ob' .ret as ob = ∃ vs, retA L n as ob rs = some vs ∧ Rt m (ret1 vs) ob res ob' := rfl

theorem valid_W (O : Ok L) {f : FuncId} {fn : Func} {c : Code} {rs : List ResultVar} (hf : L.P.funcs[f]? = some fn) (hname : (fn.name == "runtime.NumGoroutine") = false) (hb : fn.body = some c) (hrs : fn.results.toList = rs) (hn : fn.ntmps = n)
    {args : List V} {ob : OT} {res : V} {ob' : OT} (hargs : args.length ≤ n) (hlen : ob.length ≤ ob'.length)
    (h : (∀ c ∈ args, Bd ob.length c) → (∀ o x, getO ob o = some x → OBd ob.length x) → W L ob.length n c (argS 0 args) ob (kFin L ob.length n rs res ob')) : Valid L f args ob res ob' := by
  refine valid_intro O hf hname hb hlen fun h1 h2 => ?_
  rw [hn, mkS_args hargs]
  refine (W_sound O (h h1 h2)).mono fun e E' ⟨as1, ob1, he, hq⟩ => ?_
  subst he
  cases e with
  | normal => obtain ⟨vs, a, b⟩ := hq; exact ⟨vs, by rw [hrs, retA_eq]; exact a, b⟩
  | ret => obtain ⟨vs, a, b⟩ := hq; exact ⟨vs, by rw [hrs, retA_eq]; exact a, b⟩
  | _ => exact hq.elim
end
end Go.Ab
end
section
/- What the single operations come to. -/
namespace Go.Ab
open Go Go.Pp

section
variable {τ : TT} {γ : GT} {n nb : Nat} {as : AS} {g : Nat → Option O} {L : Lg} {all r : List Oper} {ob : OT} {Q : KC} {d : Option Tmp}

@[go_sem] theorem runX_move {x : Operand} : runX L n all (.move x) d r as ob Q = runOp L n all (.move x) d r as ob Q := rfl
@[go_sem] theorem runX_assign {x : Operand} : runX L n all (.assign x) d r as ob Q = runOp L n all (.assign x) d r as ob Q := rfl
@[go_sem] theorem runX_pick {c a b : Operand} : runX L n all (.pick c a b) d r as ob Q = runOp L n all (.pick c a b) d r as ob Q := rfl
@[go_sem] theorem runX_call {c : Call} : runX L n all (.call c) d r as ob Q = runOp L n all (.call c) d r as ob Q := rfl
@[go_sem] theorem runX_unOp {op : UnOp} {T : TypeId} {x : Operand} : runX L n all (.unOp op T x) d r as ob Q = runOp L n all (.unOp op T x) d r as ob Q := rfl
@[go_sem] theorem runX_alloc {T : TypeId} : runX L n all (.alloc T) d r as ob Q = runOp L n all (.alloc T) d r as ob Q := rfl
@[go_sem] theorem runX_box {T : TypeId} {x : Operand} : runX L n all (.box T x) d r as ob Q = runOp L n all (.box T x) d r as ob Q := rfl
@[go_sem] theorem runX_build {T : TypeId} {ps : Array (Nat × Operand)} : runX L n all (.build T ps) d r as ob Q = runOp L n all (.build T ps) d r as ob Q := rfl
@[go_sem] theorem runX_buildSlice {T : TypeId} {m : Nat} {ps : Array (Nat × Operand)} : runX L n all (.buildSlice T m ps) d r as ob Q = runOp L n all (.buildSlice T m ps) d r as ob Q := rfl
@[go_sem] theorem runX_load {T : TypeId} {x : Operand} : runX L n all (.load T x) d r as ob Q = runOp L n all (.load T x) d r as ob Q := rfl
@[go_sem] theorem runX_store {T : TypeId} {x y : Operand} : runX L n all (.store T x y) d r as ob Q = runOp L n all (.store T x y) d r as ob Q := rfl
@[go_sem] theorem runX_nilCheck {x : Operand} : runX L n all (.nilCheck x) d r as ob Q = runOp L n all (.nilCheck x) d r as ob Q := rfl
@[go_sem] theorem runX_convert {S T : TypeId} {x : Operand} : runX L n all (.convert S T x) d r as ob Q = runOp L n all (.convert S T x) d r as ob Q := rfl
@[go_sem] theorem runX_makeFunc {f : Fn} {a b : Array Operand} : runX L n all (.makeFunc f a b) d r as ob Q = runOp L n all (.makeFunc f a b) d r as ob Q := rfl
@[go_sem] theorem runX_makeSlice {T : TypeId} {x y : Operand} : runX L n all (.makeSlice T x y) d r as ob Q = runOp L n all (.makeSlice T x y) d r as ob Q := rfl
@[go_sem] theorem runX_slice {T : TypeId} {x : Operand} {a b c : Option Operand} : runX L n all (.slice T x a b c) d r as ob Q = runOp L n all (.slice T x a b c) d r as ob Q := rfl
@[go_sem] theorem runX_fieldAddr {T : TypeId} {x : Operand} {f : Nat} : runX L n all (.fieldAddr T x f) d r as ob Q = runOp L n all (.fieldAddr T x f) d r as ob Q := rfl
@[go_sem] theorem runX_field {T : TypeId} {x : Operand} {f : Nat} : runX L n all (.field T x f) d r as ob Q = runOp L n all (.field T x f) d r as ob Q := rfl
@[go_sem] theorem runX_indexAddr {T : TypeId} {x y : Operand} : runX L n all (.indexAddr T x y) d r as ob Q = runOp L n all (.indexAddr T x y) d r as ob Q := rfl
@[go_sem] theorem runX_index {T : TypeId} {x y : Operand} : runX L n all (.index T x y) d r as ob Q = runOp L n all (.index T x y) d r as ob Q := rfl
@[go_sem] theorem runX_extract {x : Operand} {j : Nat} : runX L n all (.extract x j) d r as ob Q = runOp L n all (.extract x j) d r as ob Q := rfl
@[go_sem] theorem runX_makeMap {T : TypeId} {x : Option Operand} : runX L n all (.makeMap T x) d r as ob Q = runOp L n all (.makeMap T x) d r as ob Q := rfl
@[go_sem] theorem runX_insert {T : TypeId} {x k v : Operand} : runX L n all (.insert T x k v) d r as ob Q = runOp L n all (.insert T x k v) d r as ob Q := rfl
@[go_sem] theorem runX_mapUpdate {T : TypeId} {x k v : Operand} : runX L n all (.mapUpdate T x k v) d r as ob Q = runOp L n all (.mapUpdate T x k v) d r as ob Q := rfl
@[go_sem] theorem runX_lookup {T : TypeId} {x k : Operand} {ok : Bool} : runX L n all (.lookup T x k ok) d r as ob Q = runOp L n all (.lookup T x k ok) d r as ob Q := rfl
@[go_sem] theorem runX_entry {x : Operand} : runX L n all (.entry x) d r as ob Q = runOp L n all (.entry x) d r as ob Q := rfl
@[go_sem] theorem runX_range {T : TypeId} {x : Operand} : runX L n all (.range T x) d r as ob Q = runOp L n all (.range T x) d r as ob Q := rfl
@[go_sem] theorem runX_next {x : Operand} {b : Bool} : runX L n all (.next x b) d r as ob Q = runOp L n all (.next x b) d r as ob Q := rfl
@[go_sem] theorem runX_b_add {T yT : TypeId} {x y : Operand} : runX L n all (.binOp .add T x y yT) d r as ob Q = runOp L n all (.binOp .add T x y yT) d r as ob Q := rfl
@[go_sem] theorem runX_b_sub {T yT : TypeId} {x y : Operand} : runX L n all (.binOp .sub T x y yT) d r as ob Q = runOp L n all (.binOp .sub T x y yT) d r as ob Q := rfl
@[go_sem] theorem runX_b_mul {T yT : TypeId} {x y : Operand} : runX L n all (.binOp .mul T x y yT) d r as ob Q = runOp L n all (.binOp .mul T x y yT) d r as ob Q := rfl
@[go_sem] theorem runX_b_quo {T yT : TypeId} {x y : Operand} : runX L n all (.binOp .quo T x y yT) d r as ob Q = runOp L n all (.binOp .quo T x y yT) d r as ob Q := rfl
@[go_sem] theorem runX_b_rem {T yT : TypeId} {x y : Operand} : runX L n all (.binOp .rem T x y yT) d r as ob Q = runOp L n all (.binOp .rem T x y yT) d r as ob Q := rfl
@[go_sem] theorem runX_b_and {T yT : TypeId} {x y : Operand} : runX L n all (.binOp .and T x y yT) d r as ob Q = runOp L n all (.binOp .and T x y yT) d r as ob Q := rfl
@[go_sem] theorem runX_b_or {T yT : TypeId} {x y : Operand} : runX L n all (.binOp .or T x y yT) d r as ob Q = runOp L n all (.binOp .or T x y yT) d r as ob Q := rfl
@[go_sem] theorem runX_b_xor {T yT : TypeId} {x y : Operand} : runX L n all (.binOp .xor T x y yT) d r as ob Q = runOp L n all (.binOp .xor T x y yT) d r as ob Q := rfl
@[go_sem] theorem runX_b_shl {T yT : TypeId} {x y : Operand} : runX L n all (.binOp .shl T x y yT) d r as ob Q = runOp L n all (.binOp .shl T x y yT) d r as ob Q := rfl
@[go_sem] theorem runX_b_shr {T yT : TypeId} {x y : Operand} : runX L n all (.binOp .shr T x y yT) d r as ob Q = runOp L n all (.binOp .shr T x y yT) d r as ob Q := rfl
@[go_sem] theorem runX_b_andNot {T yT : TypeId} {x y : Operand} : runX L n all (.binOp .andNot T x y yT) d r as ob Q = runOp L n all (.binOp .andNot T x y yT) d r as ob Q := rfl
@[go_sem] theorem runX_b_lss {T yT : TypeId} {x y : Operand} : runX L n all (.binOp .lss T x y yT) d r as ob Q = runOp L n all (.binOp .lss T x y yT) d r as ob Q := rfl
@[go_sem] theorem runX_b_leq {T yT : TypeId} {x y : Operand} : runX L n all (.binOp .leq T x y yT) d r as ob Q = runOp L n all (.binOp .leq T x y yT) d r as ob Q := rfl
@[go_sem] theorem runX_b_gtr {T yT : TypeId} {x y : Operand} : runX L n all (.binOp .gtr T x y yT) d r as ob Q = runOp L n all (.binOp .gtr T x y yT) d r as ob Q := rfl
@[go_sem] theorem runX_b_geq {T yT : TypeId} {x y : Operand} : runX L n all (.binOp .geq T x y yT) d r as ob Q = runOp L n all (.binOp .geq T x y yT) d r as ob Q := rfl
@[go_sem] theorem runX_eql_t {T yT : TypeId} {x : Operand} {t : Tmp} : runX L n all (.binOp .eql T x (.tmp t) yT) d r as ob Q = runOp L n all (.binOp .eql T x (.tmp t) yT) d r as ob Q := rfl
@[go_sem] theorem runX_eql_i {T yT : TypeId} {x : Operand} {k : IntKind} {a : Int} : runX L n all (.binOp .eql T x (.const (.int k a)) yT) d r as ob Q = runOp L n all (.binOp .eql T x (.const (.int k a)) yT) d r as ob Q := rfl
@[go_sem] theorem runX_eql_b {T yT : TypeId} {x : Operand} {a : Bool} : runX L n all (.binOp .eql T x (.const (.bool a)) yT) d r as ob Q = runOp L n all (.binOp .eql T x (.const (.bool a)) yT) d r as ob Q := rfl
@[go_sem] theorem runX_eql_s {T yT : TypeId} {x : Operand} {a : ByteArray} : runX L n all (.binOp .eql T x (.const (.string a)) yT) d r as ob Q = runOp L n all (.binOp .eql T x (.const (.string a)) yT) d r as ob Q := rfl
@[go_sem] theorem runX_eql_a {T yT : TypeId} {x : Operand} {a : Array Value} : runX L n all (.binOp .eql T x (.const (.agg a)) yT) d r as ob Q = runOp L n all (.binOp .eql T x (.const (.agg a)) yT) d r as ob Q := rfl
@[go_sem] theorem runX_eql_p {T yT : TypeId} {x : Operand} {a : Option Addr} : runX L n all (.binOp .eql T x (.const (.pointer a)) yT) d r as ob Q = runOp L n all (.binOp .eql T x (.const (.pointer a)) yT) d r as ob Q := rfl
@[go_sem] theorem runX_neq_t {T yT : TypeId} {x : Operand} {t : Tmp} : runX L n all (.binOp .neq T x (.tmp t) yT) d r as ob Q = runOp L n all (.binOp .neq T x (.tmp t) yT) d r as ob Q := rfl
@[go_sem] theorem runX_neq_i {T yT : TypeId} {x : Operand} {k : IntKind} {a : Int} : runX L n all (.binOp .neq T x (.const (.int k a)) yT) d r as ob Q = runOp L n all (.binOp .neq T x (.const (.int k a)) yT) d r as ob Q := rfl
@[go_sem] theorem runX_neq_b {T yT : TypeId} {x : Operand} {a : Bool} : runX L n all (.binOp .neq T x (.const (.bool a)) yT) d r as ob Q = runOp L n all (.binOp .neq T x (.const (.bool a)) yT) d r as ob Q := rfl
@[go_sem] theorem runX_neq_s {T yT : TypeId} {x : Operand} {a : ByteArray} : runX L n all (.binOp .neq T x (.const (.string a)) yT) d r as ob Q = runOp L n all (.binOp .neq T x (.const (.string a)) yT) d r as ob Q := rfl
@[go_sem] theorem runX_neq_a {T yT : TypeId} {x : Operand} {a : Array Value} : runX L n all (.binOp .neq T x (.const (.agg a)) yT) d r as ob Q = runOp L n all (.binOp .neq T x (.const (.agg a)) yT) d r as ob Q := rfl
@[go_sem] theorem runX_neq_p {T yT : TypeId} {x : Operand} {a : Option Addr} : runX L n all (.binOp .neq T x (.const (.pointer a)) yT) d r as ob Q = runOp L n all (.binOp .neq T x (.const (.pointer a)) yT) d r as ob Q := rfl
@[go_sem] theorem nilQ_some {T : TypeId} {k : Nat} {es : List (List Tr)} {K : Bool → Prop} : nilQ τ T (some (k, es)) K = (isSl τ T = true ∧ (es = [] → K true) ∧ K false) := by
  apply propext
  constructor
  · rintro ⟨h, k', es', he, hk⟩
    cases he
    exact ⟨h, fun h => hk true (fun _ => h), hk false (fun h => by cases h)⟩
  · rintro ⟨h, h1, h2⟩
    refine ⟨h, k, es, rfl, fun b hb => ?_⟩
    cases b
    · exact h2
    · exact h1 (hb rfl)
@[go_sem] theorem cN_tt : cN L n all r d as ob Q true true = run L n all r (ins d (vbool true) as) ob Q := rfl
@[go_sem] theorem cN_tf : cN L n all r d as ob Q true false = run L n all r (ins d (vbool false) as) ob Q := rfl
@[go_sem] theorem cN_ft : cN L n all r d as ob Q false true = run L n all r (ins d (vbool false) as) ob Q := rfl
@[go_sem] theorem cN_ff : cN L n all r d as ob Q false false = run L n all r (ins d (vbool true) as) ob Q := rfl
attribute [go_sem] isSl
theorem rOp {op : Op} {o : Option K3} (h : ∀ f args ts, op ≠ .call { callee := .value f, args := args, argTypes := ts }) (e : Ab.step L.τ L.γ (mkS n as) (getO ob) ob.length op = o) :
    runOp L n all op d r as ob Q = optK o (fun k => run L n all r (ins d k.1 as) (tab ob k) Q) := by rw [runOp_step h, e]

@[go_sem] theorem runOp_binOp {op : BinOp} {T : TypeId} {x y : Operand} {yT : TypeId} : runOp L n all (.binOp op T x y yT) d r as ob Q = optK (opBin L.τ op T (evA n as x) (evA n as y)) (cK L n all r d as ob Q) := rOp (by simp) (by simp [Ab.step, evO_mkS])
@[go_sem] theorem runOp_unOp {op : UnOp} {T : TypeId} {x : Operand} : runOp L n all (.unOp op T x) d r as ob Q = optK (opUn op (evA n as x)) (cK L n all r d as ob Q) := rOp (by simp) (by simp [Ab.step, evO_mkS])
@[go_sem] theorem runOp_alloc {T : TypeId} : runOp L n all (.alloc T) d r as ob Q = optK (match L.τ T with | some i => some (.ref ob.length 0, [], some (.box (zeroC i))) | none => none) (cK L n all r d as ob Q) := rOp (by simp) rfl
@[go_sem] theorem runOp_box {T : TypeId} {x : Operand} : runOp L n all (.box T x) d r as ob Q = optK (if (evA n as x).cells.all (oneC (getO ob)) then some (.ref ob.length 0, [], some (.box (evA n as x).cells)) else none) (cK L n all r d as ob Q) := rOp (by simp) (by simp [Ab.step, evO_mkS])
@[go_sem] theorem runOp_build {T : TypeId} {ps : Array (Nat × Operand)} : runOp L n all (.build T ps) d r as ob Q = optK (opBuild L.τ (getO ob) T (ps.toList.map fun p => (p.1, evA n as p.2))) (cK L n all r d as ob Q) := rOp (by simp) (by simp [Ab.step, evO_mkS])
@[go_sem] theorem runOp_buildSlice {T : TypeId} {m : Nat} {ps : Array (Nat × Operand)} : runOp L n all (.buildSlice T m ps) d r as ob Q = optK (opBuildSlice L.τ (getO ob) ob.length T m (ps.toList.map fun p => (p.1, evA n as p.2))) (cK L n all r d as ob Q) := rOp (by simp) (by simp [Ab.step, evO_mkS])
@[go_sem] theorem runOp_load {T : TypeId} {x : Operand} : runOp L n all (.load T x) d r as ob Q = optK (opLoad L.τ L.γ (getO ob) T (evA n as x)) (cK L n all r d as ob Q) := rOp (by simp) (by simp [Ab.step, evO_mkS])
@[go_sem] theorem runOp_store {T : TypeId} {x y : Operand} : runOp L n all (.store T x y) d r as ob Q = optK (opStore L.τ (getO ob) T (evA n as x) (evA n as y)) (cK L n all r d as ob Q) := rOp (by simp) (by simp [Ab.step, evO_mkS])
@[go_sem] theorem runOp_nilCheck {x : Operand} : runOp L n all (.nilCheck x) d r as ob Q = optK (nilOk (evA n as x)) (cK L n all r d as ob Q) := rOp (by simp) (by simp [Ab.step, evO_mkS])
@[go_sem] theorem runOp_convert {S T : TypeId} {x : Operand} : runOp L n all (.convert S T x) d r as ob Q = optK (opConv2 L.τ (getO ob) S T (evA n as x)) (cK L n all r d as ob Q) := rOp (by simp) (by simp [Ab.step, evO_mkS])
@[go_sem] theorem runOp_makeFunc {f : FuncId} {fs cs : Array Operand} : runOp L n all (.makeFunc (.func f) fs cs) d r as ob Q = run L n all r (ins d (.fn f (fs.toList.map (evA n as)) (cs.toList.map (evA n as))) as) ob Q := by
  have e : evO (mkS n as) = evA n as := funext (evO_mkS n as)
  rw [rOp (o := some (.fn f (fs.toList.map (evA n as)) (cs.toList.map (evA n as)), [], none)) (by simp) (by simp [Ab.step, e])]; rfl
@[go_sem] theorem runOp_makeSlice {T : TypeId} {x y : Operand} : runOp L n all (.makeSlice T x y) d r as ob Q = optK (opMake L.τ ob.length T (evA n as x) (evA n as y)) (cK L n all r d as ob Q) := rOp (by simp) (by simp [Ab.step, evO_mkS])
@[go_sem] theorem runOp_slice {T : TypeId} {x : Operand} {lo hi mx : Option Operand} : runOp L n all (.slice T x lo hi mx) d r as ob Q = optK (opSlice L.τ (getO ob) T (evA n as x) (lo.map (evA n as)) (hi.map (evA n as)) (mx.map (evA n as))) (cK L n all r d as ob Q) := by
  have e : evO (mkS n as) = evA n as := funext (evO_mkS n as)
  exact rOp (by simp) (by simp [Ab.step, e])
@[go_sem] theorem runOp_fieldAddr {T : TypeId} {x : Operand} {f : Nat} : runOp L n all (.fieldAddr T x f) d r as ob Q = optK (opFieldAddr L.τ T (evA n as x) f) (cK L n all r d as ob Q) := rOp (by simp) (by simp [Ab.step, evO_mkS])
@[go_sem] theorem runOp_field {T : TypeId} {x : Operand} {f : Nat} : runOp L n all (.field T x f) d r as ob Q = optK (opField L.τ T (evA n as x) f) (cK L n all r d as ob Q) := rOp (by simp) (by simp [Ab.step, evO_mkS])
@[go_sem] theorem runOp_indexAddr {T : TypeId} {x y : Operand} : runOp L n all (.indexAddr T x y) d r as ob Q = optK (opIndexAddr L.τ (getO ob) T (evA n as x) (evA n as y)) (cK L n all r d as ob Q) := rOp (by simp) (by simp [Ab.step, evO_mkS])
@[go_sem] theorem runOp_index {T : TypeId} {x y : Operand} : runOp L n all (.index T x y) d r as ob Q = optK (opIndex L.τ T (evA n as x) (evA n as y)) (cK L n all r d as ob Q) := rOp (by simp) (by simp [Ab.step, evO_mkS])
@[go_sem] theorem runOp_extract {x : Operand} {j : Nat} : runOp L n all (.extract x j) d r as ob Q = optK (opExtract (evA n as x) j) (cK L n all r d as ob Q) := rOp (by simp) (by simp [Ab.step, evO_mkS])
@[go_sem] theorem runOp_entry {x : Operand} : runOp L n all (.entry x) d r as ob Q = optK (opEntry (getO ob) (evA n as x)) (cK L n all r d as ob Q) := rOp (by simp) (by simp [Ab.step, evO_mkS])
@[go_sem] theorem runOp_range {T : TypeId} {x : Operand} : runOp L n all (.range T x) d r as ob Q = optK (opRangeA L.τ (getO ob) ob.length T (evA n as x)) (cK L n all r d as ob Q) := rOp (by simp) (by simp [Ab.step, evO_mkS])
@[go_sem] theorem runOp_makeMap {T : TypeId} : runOp L n all (.makeMap T none) d r as ob Q = optK (opMakeMap L.τ ob.length T) (cK L n all r d as ob Q) := rOp (by simp) (by simp [Ab.step, evO_mkS])
@[go_sem] theorem runOp_insert {T : TypeId} {x k v : Operand} : runOp L n all (.insert T x k v) d r as ob Q = optK (opMapPut L.τ (getO ob) T (evA n as x) (evA n as k) (evA n as v)) (cK L n all r d as ob Q) := rOp (by simp) (by simp [Ab.step, evO_mkS])
@[go_sem] theorem runOp_mapUpdate {T : TypeId} {x k v : Operand} : runOp L n all (.mapUpdate T x k v) d r as ob Q = optK (opMapPut L.τ (getO ob) T (evA n as x) (evA n as k) (evA n as v)) (cK L n all r d as ob Q) := rOp (by simp) (by simp [Ab.step, evO_mkS])
@[go_sem] theorem runOp_lookup {T : TypeId} {x k : Operand} {ok : Bool} : runOp L n all (.lookup T x k ok) d r as ob Q = optK (opLookup L.τ (getO ob) T (evA n as x) (evA n as k) ok) (cK L n all r d as ob Q) := rOp (by simp) (by simp [Ab.step, evO_mkS])
@[go_sem] theorem runOp_next {x : Operand} : runOp L n all (.next x true) d r as ob Q = optK (opNext (getO ob) (evA n as x)) (cK L n all r d as ob Q) := rOp (by simp) (by simp [Ab.step, evO_mkS])
@[go_sem] theorem runOp_builtin {b : Builtin} {args : Array Operand} {ts : Array TypeId} : runOp L n all (.call { callee := .builtin b, args := args, argTypes := ts }) d r as ob Q = optK (opBuiltin L.τ (getO ob) ob.length b ts.toList (args.toList.map (evA n as))) (cK L n all r d as ob Q) := by
  have e : evO (mkS n as) = evA n as := funext (evO_mkS n as)
  exact rOp (by simp) (by simp [Ab.step, e])

theorem pv_pure {v : Value} (h : oneV v = true) : pv (pure v) = some (vlit v, [], none) := by
  show (if oneV v = true then _ else _) = _
  rw [if_pos h]

variable {T : TypeId} {k k' : IntKind} {a b : Int}
@[go_sem] theorem bin_add : opBin τ .add T (vint k a) (vint k b) = some (vint k (k.wrap (a + b)), [], none) := by
  have e : binOp .add T (.int k a) (.int k b) = pure (.int k (k.wrap (a + b))) := by simp [binOp, Op.intArith, Op.intBits, Op.intCmp]
  simp only [opBin, e]
  exact pv_pure rfl
@[go_sem] theorem bin_sub : opBin τ .sub T (vint k a) (vint k b) = some (vint k (k.wrap (a - b)), [], none) := by
  have e : binOp .sub T (.int k a) (.int k b) = pure (.int k (k.wrap (a - b))) := by simp [binOp, Op.intArith, Op.intBits, Op.intCmp]
  simp only [opBin, e]
  exact pv_pure rfl
@[go_sem] theorem bin_mul : opBin τ .mul T (vint k a) (vint k b) = some (vint k (k.wrap (a * b)), [], none) := by
  have e : binOp .mul T (.int k a) (.int k b) = pure (.int k (k.wrap (a * b))) := by simp [binOp, Op.intArith, Op.intBits, Op.intCmp]
  simp only [opBin, e]
  exact pv_pure rfl
@[go_sem] theorem bin_lss : opBin τ .lss T (vint k a) (vint k b) = some (vbool (decide (a < b)), [], none) := by
  have e : binOp .lss T (.int k a) (.int k b) = pure (.bool (decide (a < b))) := by simp [binOp, Op.intArith, Op.intBits, Op.intCmp]
  simp only [opBin, e]
  exact pv_pure rfl
@[go_sem] theorem bin_leq : opBin τ .leq T (vint k a) (vint k b) = some (vbool (decide (a ≤ b)), [], none) := by
  have e : binOp .leq T (.int k a) (.int k b) = pure (.bool (decide (a ≤ b))) := by simp [binOp, Op.intArith, Op.intBits, Op.intCmp]
  simp only [opBin, e]
  exact pv_pure rfl
@[go_sem] theorem bin_gtr : opBin τ .gtr T (vint k a) (vint k b) = some (vbool (decide (b < a)), [], none) := by
  have e : binOp .gtr T (.int k a) (.int k b) = pure (.bool (decide (b < a))) := by simp [binOp, Op.intArith, Op.intBits, Op.intCmp]
  simp only [opBin, e]
  exact pv_pure rfl
@[go_sem] theorem bin_geq : opBin τ .geq T (vint k a) (vint k b) = some (vbool (decide (b ≤ a)), [], none) := by
  have e : binOp .geq T (.int k a) (.int k b) = pure (.bool (decide (b ≤ a))) := by simp [binOp, Op.intArith, Op.intBits, Op.intCmp]
  simp only [opBin, e]
  exact pv_pure rfl
@[go_sem] theorem bin_eql : opBin τ .eql T (vint k a) (vint k b) = some (vbool (a == b), [], none) := by
  have e : binOp .eql T (.int k a) (.int k b) = pure (.bool (a == b)) := by simp [binOp, Op.intArith, Op.intBits, Op.intCmp]
  simp only [opBin, e]
  exact pv_pure rfl
@[go_sem] theorem bin_neq : opBin τ .neq T (vint k a) (vint k b) = some (vbool (a != b), [], none) := by
  have e : binOp .neq T (.int k a) (.int k b) = pure (.bool (a != b)) := by simp [binOp, Op.intArith, Op.intBits, Op.intCmp]
  simp only [opBin, e]
  exact pv_pure rfl
@[go_sem] theorem bin_and : opBin τ .and T (vint k a) (vint k b) = some (vint k (k.wrap (andW k.bits a b)), [], none) := by
  have e : binOp .and T (.int k a) (.int k b) = pure (.int k (k.wrap (BitVec.ofInt k.bits a &&& BitVec.ofInt k.bits b).toNat)) := by simp [binOp, Op.intArith, Op.intBits, Op.intCmp]
  simp only [opBin, e]
  exact pv_pure rfl
@[go_sem] theorem bin_or : opBin τ .or T (vint k a) (vint k b) = some (vint k (k.wrap (orW k.bits a b)), [], none) := by
  have e : binOp .or T (.int k a) (.int k b) = pure (.int k (k.wrap (BitVec.ofInt k.bits a ||| BitVec.ofInt k.bits b).toNat)) := by simp [binOp, Op.intArith, Op.intBits, Op.intCmp]
  simp only [opBin, e]
  exact pv_pure rfl
@[go_sem] theorem bin_xor : opBin τ .xor T (vint k a) (vint k b) = some (vint k (k.wrap (xorW k.bits a b)), [], none) := by
  have e : binOp .xor T (.int k a) (.int k b) = pure (.int k (k.wrap (BitVec.ofInt k.bits a ^^^ BitVec.ofInt k.bits b).toNat)) := by simp [binOp, Op.intArith, Op.intBits, Op.intCmp]
  simp only [opBin, e]
  exact pv_pure rfl
@[go_sem] theorem bin_andNot : opBin τ .andNot T (vint k a) (vint k b) = some (vint k (k.wrap (clrW k.bits a b)), [], none) := by
  have e : binOp .andNot T (.int k a) (.int k b) = pure (.int k (k.wrap (BitVec.ofInt k.bits a &&& ~~~BitVec.ofInt k.bits b).toNat)) := by simp [binOp, Op.intArith, Op.intBits, Op.intCmp]
  simp only [opBin, e]
  exact pv_pure rfl
theorem bin_quo' (h : b ≠ 0) : opBin τ .quo T (vint k a) (vint k b) = some (vint k (k.wrap (a.tdiv b)), [], none) := by
  have e : binOp .quo T (.int k a) (.int k b) = pure (.int k (k.wrap (a.tdiv b))) := by simp [binOp, Op.intDiv, h]
  simp only [opBin, e]
  exact pv_pure rfl
@[go_sem] theorem bin_quo : opBin τ .quo T (vint k a) (vint k b) = if b = 0 then none else some (vint k (k.wrap (a.tdiv b)), [], none) := by
  split
  · rename_i h; subst h
    have e : binOp .quo T (.int k a) (.int k 0) = runtimePanic (.error "integer divide by zero") := by simp [binOp, Op.intDiv]
    simp only [opBin, e]; rfl
  · rename_i h; exact bin_quo' h
@[go_sem] theorem bin_rem : opBin τ .rem T (vint k a) (vint k b) = if b = 0 then none else some (vint k (a.tmod b), [], none) := by
  split
  · rename_i h; subst h
    have e : binOp .rem T (.int k a) (.int k 0) = runtimePanic (.error "integer divide by zero") := by simp [binOp, Op.intDiv]
    simp only [opBin, e]; rfl
  · rename_i h
    have e : binOp .rem T (.int k a) (.int k b) = pure (.int k (a.tmod b)) := by simp [binOp, Op.intDiv, h]
    simp only [opBin, e]
    exact pv_pure rfl
@[go_sem] theorem bin_shl : opBin τ .shl T (vint k a) (vint k' b) = if b < 0 then none else some (vint k (k.wrap (shlE a b k.bits)), [], none) := by
  split
  · rename_i h
    have e : binOp .shl T (.int k a) (.int k' b) = runtimePanic (.error "negative shift amount") := by
      show Op.shift .shl k a k' b = _
      unfold Op.shift
      rw [if_pos h]
    simp only [opBin, e]
    rfl
  · rename_i h
    have e : binOp .shl T (.int k a) (.int k' b) = pure (.int k (k.wrap (a * 2 ^ min b.toNat k.bits))) := by
      show Op.shift .shl k a k' b = _
      unfold Op.shift
      rw [if_neg h]
    simp only [opBin, e]
    exact pv_pure rfl
@[go_sem] theorem bin_shr : opBin τ .shr T (vint k a) (vint k' b) = if b < 0 then none else some (vint k (shrE a b k.bits), [], none) := by
  split
  · rename_i h
    have e : binOp .shr T (.int k a) (.int k' b) = runtimePanic (.error "negative shift amount") := by
      show Op.shift .shr k a k' b = _
      unfold Op.shift
      rw [if_pos h]
    simp only [opBin, e]
    rfl
  · rename_i h
    have e : binOp .shr T (.int k a) (.int k' b) = pure (.int k (a.fdiv (2 ^ min b.toNat k.bits))) := by
      show Op.shift .shr k a k' b = _
      unfold Op.shift
      rw [if_neg h]
    simp only [opBin, e]
    exact pv_pure rfl
variable {s t : ByteArray} {x y : Bool}
@[go_sem] theorem bin_eqlS : opBin τ .eql T (vstr s) (vstr t) = some (vbool (s.toList == t.toList), [], none) := rfl
@[go_sem] theorem bin_neqS : opBin τ .neq T (vstr s) (vstr t) = some (vbool !(s.toList == t.toList), [], none) := rfl
@[go_sem] theorem bin_eqlB : opBin τ .eql T (vbool x) (vbool y) = match τ T with
    | some i => match i.d with
      | .bool => some (vbool (x == y), [], none)
      | _ => none
    | none => none := by
  simp only [opBin]
  cases τ T with
  | none => rfl
  | some i => obtain ⟨d, a, b, c, e⟩ := i; cases d <;> rfl
@[go_sem] theorem bin_neqB : opBin τ .neq T (vbool x) (vbool y) = match τ T with
    | some i => match i.d with
      | .bool => some (vbool !(x == y), [], none)
      | _ => none
    | none => none := by
  simp only [opBin]
  cases τ T with
  | none => rfl
  | some i => obtain ⟨d, a, b, c, e⟩ := i; cases d <;> rfl
@[go_sem] theorem bin_eqlA {cs ds : List V} : opBin τ .eql T (.agg cs) (.agg ds) = match τ T with
    | some i => if i.eq = true ∧ likeV i.zero.cells.toList cs = true ∧ likeV i.zero.cells.toList ds = true then (match eqCells cs ds with | some b => some (vbool b, [], none) | none => none) else none
    | none => none := by
  simp only [opBin]
  cases τ T with
  | none => rfl
  | some i =>
    cases eqCells cs ds <;> rfl
@[go_sem] theorem bin_neqA {cs ds : List V} : opBin τ .neq T (.agg cs) (.agg ds) = match τ T with
    | some i => if i.eq = true ∧ likeV i.zero.cells.toList cs = true ∧ likeV i.zero.cells.toList ds = true then (match eqCells cs ds with | some b => some (vbool !b, [], none) | none => none) else none
    | none => none := by
  simp only [opBin]
  cases τ T with
  | none => rfl
  | some i =>
    cases eqCells cs ds <;> rfl
attribute [go_sem] likeV like eqCells eqLit beq_self_eq_true and_self
@[go_sem] theorem un_not : opUn .not (vbool x) = some (vbool (!x), [], none) := rfl
@[go_sem] theorem un_neg : opUn .neg (vint k a) = some (vint k (k.wrap (0 - a)), [], none) := rfl
@[go_sem] theorem nil_ref {o off : Nat} : nilOk (.ref o off) = some (.ref o off, [], none) := rfl
@[go_sem] theorem nil_el {k : Nat} {v : V} {i off : Nat} : nilOk (.el k v i off) = some (.el k v i off, [], none) := rfl
@[go_sem] theorem nil_glob {o off : Nat} : nilOk (.glob o off) = some (.glob o off, [], none) := rfl
@[go_sem] theorem nil_fn {f : FuncId} {p q : List V} : nilOk (.fn f p q) = some (.fn f p q, [], none) := rfl
end

@[go_sem] theorem pv_i2i {k : IntKind} {a : Int} : pv (Conv.intToInt k a) = some (vint k (k.wrap a), [], none) := rfl
@[go_sem] theorem pv_int {k : IntKind} {a : Int} : pv (pure (.int k a)) = some (vint k a, [], none) := rfl
@[go_sem] theorem pv_bool {a : Bool} : pv (pure (.bool a)) = some (vbool a, [], none) := rfl
@[go_sem] theorem pv_str {a : ByteArray} : pv (pure (.string a)) = some (vstr a, [], none) := rfl
theorem ex_some {α : Type} {a : α} {P : α → Prop} : (∃ v, some a = some v ∧ P v) = P a := by simp
theorem dec_t {p : Prop} [Decidable p] : (decide p = true) = p := by simp
theorem dec_f {p : Prop} [Decidable p] : (decide p = false) = ¬ p := by simp
attribute [go_sem] opConv opConv2 List.replicate_succ List.replicate_zero List.all_cons List.all_nil Bool.and_true Bool.true_and evA lk ins gv gdst tab upds constV constC constT oneV V.cells argS opExtract litInt litStr zeroC zeroT retA ret1 ex_some dec_t dec_f
attribute [go_sem] not_false_eq_true not_true_eq_false Nat.zero_add Bool.false_eq_true List.getElem?_cons_zero List.getElem?_cons_succ Option.bind List.map_cons List.map_nil List.length_cons List.length_nil List.append_nil List.nil_append List.cons_append and_true true_and Bool.not_true Bool.not_false if_true if_false List.toList_toArray
end Go.Ab
end
section
/- Tables with an unknown beginning; reading. -/
namespace Go.Ab
open Go
open Go.Pp (nxP decI)

section
variable {ob l : OT} {i : Nat} {x : Option O}
theorem getO_app : getO (ob ++ l) (ob.length + i) = getO l i := by simp [getO, List.getElem?_append_right]
theorem getO_app0 : getO (ob ++ l) ob.length = getO l 0 := getO_app (i := 0)
theorem getO_0 : getO (x :: l) 0 = x := by simp [getO]
theorem getO_s : getO (x :: l) (i + 1) = getO l i := by simp [getO]
theorem getO_low (h : i < ob.length) : getO (ob ++ l) i = getO ob i := by simp [getO, List.getElem?_append_left h]
theorem set_app {y : Option O} : (ob ++ l).set (ob.length + i) y = ob ++ l.set i y := by rw [List.set_append_right _ _ (Nat.le_add_right _ _)]; simp
theorem set_app0 {y : Option O} : (ob ++ l).set ob.length y = ob ++ l.set 0 y := set_app (i := 0)
theorem getO_ext {o : Nat} {x : O} (h : getO ob o = some x) : getO (ob ++ l) o = some x := by rw [getO_low (getO_lt h)]; exact h

def Ext (g g' : Nat → Option O) : Prop := ∀ o x, g o = some x → g' o = some x
theorem Ext.app : Ext (getO ob) (getO (ob ++ l)) := fun _ _ h => getO_ext h
theorem Ext.rdS {g g' : Nat → Option O} (h : Ext g g') : ∀ {v : V} {p : Nat × List (List Tr)}, rdS g v = some p → Ab.rdS g' v = some p
  | .tr t, p, hr => by cases t <;> exact hr
  | .row o ver off len, p, hr => by
    simp only [Ab.rdS] at hr ⊢
    cases ho : g o with
    | none => simp [ho] at hr
    | some x => rw [h o x ho]; rw [ho] at hr; exact hr
  | .sub k v lo n f, p, hr => by
    simp only [Ab.rdS] at hr ⊢
    cases hv : Ab.rdS g v with
    | none => simp [hv] at hr
    | some q => rw [h.rdS hv]; rw [hv] at hr; exact hr
  | .agg _, p, hr => by simp [Ab.rdS] at hr
  | .ref .., p, hr => by simp [Ab.rdS] at hr
  | .el .., p, hr => by simp [Ab.rdS] at hr
  | .glob .., p, hr => by simp [Ab.rdS] at hr
  | .fn .., p, hr => by simp [Ab.rdS] at hr
  | .tup _, p, hr => by simp [Ab.rdS] at hr
  | .junk, p, hr => by simp [Ab.rdS] at hr
theorem Ext.rdK {g g' : Nat → Option O} (h : Ext g g') {v : V} {k : Nat} {es : List (List Tr)} (hr : rdK g k v = some es) : Ab.rdK g' k v = some es := by
  obtain ⟨k', hs⟩ := rdK_rdS hr
  unfold Ab.rdK at hr ⊢
  rw [hs] at hr
  rw [h.rdS hs]
  exact hr
theorem rdK_app {v : V} {k : Nat} {es : List (List Tr)} (hr : rdK (getO ob) k v = some es) : rdK (getO (ob ++ l)) k v = some es := Ext.app.rdK hr
@[go_sem] theorem oneC_tr {g : Nat → Option O} {t : Tr} : oneC g (.tr t) = true := by simp [oneC]
@[go_sem] theorem oneC_ref {g : Nat → Option O} {o f : Nat} : oneC g (.ref o f) = true := by simp [oneC]
@[go_sem] theorem oneC_glob {g : Nat → Option O} {o f : Nat} : oneC g (.glob o f) = true := by simp [oneC]
@[go_sem] theorem oneC_fn {g : Nat → Option O} {f : FuncId} {a b : List V} : oneC g (.fn f a b) = true := by simp [oneC]
@[go_sem] theorem oneC_el {g : Nat → Option O} {k : Nat} {v : V} {i o : Nat} : oneC g (.el k v i o) = true := by simp [oneC]
@[go_sem] theorem oneC_row {g : Nat → Option O} {o v f l : Nat} : oneC g (.row o v f l) = (rdS g (.row o v f l)).isSome := by simp [oneC, isS]
@[go_sem] theorem oneC_sub {g : Nat → Option O} {k : Nat} {v : V} {l n : Nat} {f : Bool} : oneC g (.sub k v l n f) = (rdS g (.sub k v l n f)).isSome := by simp [oneC, isS]
section
variable {g : Nat → Option O} {k k' : Nat} {f : Bool} {es : List (List Tr)} {o ver off len lo n : Nat} {v : V}
@[go_sem] theorem rdS_tr : rdS g (.tr (.sl k f es)) = some (k, es) := rfl
@[go_sem] theorem rdS_row : rdS g (.row o ver off len) = match g o with | some (.row k v es) => if v = ver ∧ off + len ≤ es.length then some (k, (es.drop off).take len) else none | _ => none := rfl
@[go_sem] theorem rdK_tr : rdK g k (.tr (.sl k' f es)) = if k' = k ∨ es.length = 0 then some es else none := rfl
@[go_sem] theorem rdK_row : rdK g k (.row o ver off len) = match g o with | some (.row k' v es) => if v = ver ∧ off + len ≤ es.length ∧ (k' = k ∨ ((es.drop off).take len).length = 0) then some ((es.drop off).take len) else none | _ => none := by
  unfold rdK rdS
  cases ho : g o with
  | none => rfl
  | some x =>
    cases x with
    | box => rfl
    | iter => rfl
    | mp => rfl
    | mit => rfl
    | row k1 v1 es1 =>
      simp only []
      by_cases h1 : v1 = ver
      · by_cases h2 : off + len ≤ es1.length
        · simp only [h1, h2, true_and, and_true, if_true, and_self]
        · simp only [h2, false_and, and_false, if_false]
      · simp only [h1, false_and, if_false]
@[go_sem] theorem rdK_sub : rdK g k (.sub k v lo n f) = match rdK g k v with | some es => if lo + n ≤ es.length then some ((es.drop lo).take n) else none | none => none := by
  unfold rdK
  cases hv : rdS g v with
  | none => simp [rdS, hv]
  | some p =>
    obtain ⟨k2, es⟩ := p
    simp only [rdS, hv]
    by_cases hc : lo + n ≤ es.length
    · by_cases hk : k2 = k
      · subst hk; simp [hc]
      · by_cases h0 : es.length = 0
        · have : es = [] := List.length_eq_zero_iff.1 h0
          subst this
          simp at hc
          simp [hc.1, hc.2]
        · simp [hc, hk, Ne.symm hk, h0]
    · by_cases hk : k2 = k ∨ es.length = 0
      · simp only [hc, hk, false_and, if_false, if_true]
      · simp only [hc, hk, false_and, if_false]
theorem oneC_of (h : rdK g k v = some es) : oneC g v = true := by
  obtain ⟨k', hs⟩ := rdK_rdS h
  simp [oneC, isS, hs]
end
theorem rd4 {ob : OT} {v : V} {k : Nat} {es : List (List Tr)} (hr : rdK (getO ob) k v = some es) : (rdK (getO ob) k v = some es ∧ ∀ l, rdK (getO (ob ++ l)) k v = some es) ∧ (oneC (getO ob) v = true ∧ ∀ l, oneC (getO (ob ++ l)) v = true) :=
  ⟨⟨hr, fun _ => rdK_app hr⟩, oneC_of hr, fun _ => oneC_of (rdK_app hr)⟩
theorem take_map_len {α β : Type} (f : α → β) (l : List α) : (l.map f).take l.length = l.map f := List.take_of_length_le (by simp)
end

@[go_sem] theorem nxT_0 {s : ByteArray} {pos : Nat} : (nxT s pos)[0]? = some (vbool (decide (pos < s.size))) := by
  unfold nxT
  by_cases h : pos < s.size <;> simp [h]
@[go_sem] theorem nxT_2 {s : ByteArray} {pos : Nat} (h : decide (pos < s.size) = true) : (nxT s pos)[2]? = some (vint .i32 (decI s pos)) := by
  have h := of_decide_eq_true h
  unfold nxT
  simp [h]
@[go_sem] theorem nxT_1 {s : ByteArray} {pos : Nat} (h : decide (pos < s.size) = true) : (nxT s pos)[1]? = some (vint .i64 pos) := by
  have h := of_decide_eq_true h
  unfold nxT
  simp [h]
attribute [go_sem] opEntry opRangeA opRangeM mapT litI64 opMakeMap opMapPut opLookup zeroV opRange opNext getO_app getO_app0 getO_0 getO_s set_app set_app0 opAppend opSlice opSlice0 normS opIndexAddr opIndex opMake opBuildSlice fillE elemT srcE opBuild opField opFieldAddr opLoad opStore opBuiltin opLen opCopy opClear
  mkV cellsAt splice isFull asRow isS true_or or_true List.take_succ_cons List.take_zero List.drop_succ_cons Nat.mul_one Nat.add_zero Option.isSome_none Option.isSome_some Bool.or_true Bool.or_false Bool.false_or Bool.true_or addOff placeS fillV toTr toTrs bnd aggD List.append_assoc List.length_append List.set_cons_zero List.set_cons_succ List.length_map take_map_len List.take_length List.drop_zero Nat.le_refl
end Go.Ab
end
section
/- States made smaller; answers. -/
namespace Go.Ab
open Go

section
variable {L : Lg} {m n : Nat} {as as' : AS} {ob ob' l l' : OT}

theorem VLe.eq {nn : Nat} {v v' : V} (h : v = v') (hb : Bd nn v') : VLe nn v v' := h ▸ VLe.self (h ▸ hb)
def entR (R : V → V → Prop) (as : AS) : AS → Prop
  | [] => True
  | (t, v) :: r => R (lk as t) v ∧ entR R as r
theorem entR_lk {R : V → V → Prop} (hj : ∀ v, R v .junk) : ∀ {as' : AS}, entR R as as' → ∀ t, R (lk as t) (lk as' t)
  | [], _, t => hj _
  | (d, v) :: r, h, t => by
    simp only [lk]
    by_cases hd : t = d
    · rw [if_pos hd]; subst hd; exact h.1
    · rw [if_neg hd]; exact entR_lk hj h.2 t
theorem slR_of {R : V → V → Prop} : ∀ {a b : List V}, a.length = b.length → (∀ (j : Nat) (v v' : V), a[j]? = some v → b[j]? = some v' → R v v') → SlR R a b
  | [], [], _, _ => trivial
  | v :: a, v' :: b, hl, h => ⟨h 0 v v' rfl rfl, slR_of (by simpa using hl) (fun j x x' hx hx' => h (j + 1) x x' (by simpa using hx) (by simpa using hx'))⟩
theorem slR_mkS {R : V → V → Prop} (hj : ∀ v, R v .junk) (h : entR R as as') : SlR R (mkS n as) (mkS n as') :=
  slR_of (by simp [mkS]) (fun j v v' hv hv' => by
    have hlt : j < n := by have := (List.getElem?_eq_some_iff.1 hv).1; simpa [mkS] using this
    simp [mkS, hlt] at hv hv'
    subst hv hv'
    exact entR_lk hj h j)
theorem slLe_of {n : Nat} : ∀ {a b : List V}, SlR (VLe n) a b → SlLe n a b
  | [], [], _ => trivial
  | _ :: _, _ :: _, h => ⟨h.1, slLe_of h.2⟩

theorem To.ghost (k : Nat) (h : entR (VG ob.length k) as as') : To L m n as ob as' (ob ++ [some (.row k 0 [])]) :=
  Wk.ghost (slR_mkS (fun _ _ _ r _ _ => .junk r) h) ⟨by simp, by simp [getO], fun o x' ho hx => ⟨x', by rw [← hx, getO_low ho], .same x'⟩⟩

theorem To.ghost' (k : Nat) (h : entR (VG ob.length k) as as') (ht : TG k ob ob') : To L m n as ob as' ob' := Wk.ghost (slR_mkS (fun _ _ _ r _ _ => .junk r) h) ht

def obR (nn : Nat) : OT → OT → Prop
  | _, [] => True
  | _ :: l, none :: l' => obR nn l l'
  | some x :: l, some x' :: l' => OLe nn x x' ∧ obR nn l l'
  | _, _ => False
theorem obR_get {nn : Nat} : ∀ {l l' : OT}, obR nn l l' → ∀ {i : Nat} {x' : O}, getO l' i = some x' → ∃ x, getO l i = some x ∧ OLe nn x x'
  | l, [], _, i, x', h => by simp [getO] at h
  | [], none :: _, h, _, _, _ => h.elim
  | [], some _ :: _, h, _, _, _ => h.elim
  | x :: l, none :: l', h, 0, x', hx => by simp [getO] at hx
  | x :: l, none :: l', h, i + 1, x', hx => by
    obtain ⟨y, h1, h2⟩ := obR_get (l := l) (l' := l') h (i := i) (by simpa [getO] using hx)
    exact ⟨y, by simpa [getO] using h1, h2⟩
  | none :: _, some _ :: _, h, _, _, _ => h.elim
  | some x :: l, some y :: l', h, 0, x', hx => by simp [getO] at hx; subst hx; exact ⟨x, by simp [getO], h.1⟩
  | some x :: l, some y :: l', h, i + 1, x', hx => by
    obtain ⟨z, h1, h2⟩ := obR_get (l := l) (l' := l') h.2 (i := i) (by simpa [getO] using hx)
    exact ⟨z, by simpa [getO] using h1, h2⟩
theorem obR_len {nn : Nat} : ∀ {l l' : OT}, obR nn l l' → l'.length ≤ l.length
  | _, [], _ => Nat.zero_le _
  | _ :: l, none :: l', h => Nat.succ_le_succ (obR_len (l := l) (l' := l') h)
  | some _ :: l, some _ :: l', h => Nat.succ_le_succ (obR_len h.2)
  | [], _ :: _, h => by rename_i y _; cases y <;> exact h.elim
  | none :: _, some _ :: _, h => h.elim

theorem SlLe.refl {nn : Nat} : ∀ {cs : List V}, (∀ c ∈ cs, Bd nn c) → SlLe nn cs cs
  | [], _ => trivial
  | v :: r, h => ⟨VLe.self (h v (by simp)), SlLe.refl (fun c hc => h c (by simp [hc]))⟩
theorem OLe.refl {nn : Nat} {x : O} (h : OBd nn x) : OLe nn x x := by
  cases x with
  | box cs => exact .box cs cs (SlLe.refl h)
  | row k ver es => exact .row k ver es
  | iter s p => exact .iter s p
  | mp ks vs => exact .mp ks vs vs (SlLe.refl h)
  | mit o c seen => exact .mit o c seen h
theorem OBd.mono {a b : Nat} (hab : a ≤ b) {x : O} (h : OBd a x) : OBd b x := by
  cases x with
  | box cs => exact fun c hc => (h c hc).mono hab
  | row => trivial
  | iter => trivial
  | mp ks vs => exact fun c hc => (h c hc).mono hab
  | mit o c seen => exact Nat.lt_of_lt_of_le h hab
def TBd (m : Nat) (ob : OT) : Prop := ∀ o x, getO ob o = some x → OBd m x

theorem tle_app (hob : TBd ob.length ob) (h : obR (ob.length + l'.length) l l') : TLe (ob.length + l'.length) (ob ++ l) (ob ++ l') := by
  refine ⟨by simp, by have := obR_len h; simp; omega, fun o x' hx => ?_⟩
  by_cases ho : o < ob.length
  · rw [getO_low ho] at hx ⊢
    exact ⟨x', hx, OLe.refl ((hob o x' hx).mono (Nat.le_add_right _ _))⟩
  · obtain ⟨i, rfl⟩ := Nat.exists_eq_add_of_le (Nat.le_of_not_lt ho)
    rw [getO_app] at hx ⊢
    exact obR_get h hx

theorem To.cut {l' : OT} (hob : TBd ob.length ob) (hm : m ≤ ob.length) (h : entR (VLe (ob.length + l'.length)) as as') (ho : obR (ob.length + l'.length) l l') : To L m n as (ob ++ l) as' (ob ++ l') :=
  Wk.cut (n := ob.length + l'.length) (by omega) (slLe_of (slR_mkS VLe.junk h)) (tle_app hob ho)
theorem getO_upds_low {o : Nat} (ho : o < ob.length) : ∀ {ks : List (Nat × Option O)} {ob1 : OT}, (∀ p ∈ ks, ob.length ≤ p.1) → getO ob1 o = getO ob o → getO (upds ob1 ks) o = getO ob o
  | [], ob1, _, h => h
  | (i, x) :: r, ob1, hk, h => by
    simp only [upds]
    refine getO_upds_low ho (fun p hp => hk p (by simp [hp])) ?_
    rw [getO_set_ne (by have := hk (i, x) (by simp); simp at this; omega)]
    exact h

theorem Rt.done {v res : V} {ks : List (Nat × Option O)} (hob : TBd ob.length ob) (h : frz (getO (ob ++ l)) v = some (res, ks)) (hk : ∀ p ∈ ks, ob.length ≤ p.1) (hb : Bd ob.length res) (hm : m = ob.length) : Rt m v (ob ++ l) res ob := by
  subst hm
  refine Rt.trans (Rt.freeze h) (Rt.cut (n := ob.length) (Nat.le_refl _) (VLe.self hb) ⟨rfl, by rw [upds_length]; simp, fun o x' hx => ⟨x', ?_, OLe.refl (hob o x' hx)⟩⟩)
  have ho := getO_lt hx
  rw [getO_upds_low ho hk (getO_low ho)]; exact hx
theorem Rt.same {v : V} (hm : m = ob.length) (hob : TBd ob.length ob) (hb : Bd ob.length v) : Rt m v (ob ++ l) v ob := by
  subst hm
  refine Rt.cut (n := ob.length) (Nat.le_refl _) (VLe.self hb) ⟨rfl, by simp, fun o x' hx => ⟨x', ?_, OLe.refl (hob o x' hx)⟩⟩
  rw [getO_low (getO_lt hx)]; exact hx
end
section
variable {L : Lg} {m n : Nat} {as as' : AS} {ob l l' : OT}
theorem To.move {ρ : List (Nat × Nat)} (hob : TBd ob.length ob) (hm : m ≤ ob.length) (h : entR (VM ob.length ρ) as as') (hl : l'.length = ρ.length) (hn : (ρ.map (·.1)).Nodup)
    (ho : ∀ t i ver, ρ[t]? = some (i, ver) → ob.length ≤ i ∧ ∀ x', getO l' t = some x' → ∃ x, getO (ob ++ l) i = some x ∧ OM ob.length ρ ver x x') : To L m n as (ob ++ l) as' (ob ++ l') :=
  Wk.move hm (slR_mkS (VM.junk ρ) h) ⟨by simp [hl], fun o x' ho hx => by
    rw [getO_low ho] at hx
    exact ⟨x', by rw [getO_low ho]; exact hx, OLe.refl (hob o x' hx)⟩, fun t i ver ht => ⟨(ho t i ver ht).1, fun x' hx => (ho t i ver ht).2 x' (by rwa [getO_app] at hx)⟩, hn⟩
end
section
variable {m : Nat} {ob l : OT}
theorem Rt.row {j k ver len : Nat} {es : List (List Tr)} (hob : TBd ob.length ob) (hm : m = ob.length) (h : getO l j = some (.row k ver es)) : Rt m (.row (ob.length + j) ver 0 len) (ob ++ l) (.row ob.length 0 0 len) (ob ++ [some (.row k 0 es)]) := by
  subst hm
  refine Rt.move (ρ := [(ob.length + j, ver)]) VM.row0 ⟨by simp, fun o x' ho hx => ?_, fun t i v ht => ?_, by simp⟩
  · rw [getO_low ho] at hx
    exact ⟨x', by rw [getO_low ho]; exact hx, OLe.refl (hob o x' hx)⟩
  · cases t with
    | zero =>
      simp only [List.getElem?_cons_zero, Option.some.injEq, Prod.mk.injEq] at ht
      obtain ⟨rfl, rfl⟩ := ht
      refine ⟨by omega, fun x' hx => ⟨_, by rw [getO_app]; exact h, ?_⟩⟩
      rw [getO_app] at hx
      have : x' = .row k 0 es := by simpa [getO, eq_comm] using hx
      subst this
      exact .row k es
    | succ t => simp at ht
theorem Rt.nilRow {k k' : Nat} : Rt m (.tr (.sl k' true [])) ob (.row ob.length 0 0 0) (ob ++ [some (.row k 0 [])]) :=
  Rt.ghost (k := k) (VG.nil _ _ _) ⟨by simp, by simp [getO], fun o x' ho hx => ⟨x', by rw [← hx, getO_low ho], .same x'⟩⟩
end
theorem wrap_i64 {n : Int} (h : -9223372036854775808 ≤ n) (h2 : n < 9223372036854775808) : IntKind.i64.wrap n = n := by
  unfold IntKind.wrap
  simp [IntKind.signed, IntKind.bits]
  split <;> omega
attribute [go_sem] entR obR frz frzL
end Go.Ab
end
section
/- Regions whose order is drawn: the trace in the text's order. -/
namespace Go.Ab
open Go

def opBuildZ (τ : TT) (ob : Nat → Option O) (T : TypeId) (len : Nat) (parts : List (Nat × V)) : Option K3 :=
  match opBuildSlice τ ob 0 T len parts with
  | some (_, ks, some (.row k _ es)) => some (.tr (.sl k false es), ks, none)
  | _ => none
def perfZ (L : Lg) (sl : List V) (ob : OT) (op : Op) (K : V → OT → Prop) : Prop :=
  match op with
  | .buildSlice T n ps => match opBuildZ L.τ (getO ob) T n (ps.toList.map fun p => (p.1, evO sl p.2)) with | some k => K k.1 (tab ob k) | none => False
  | _ => False
def perfD (L : Lg) (sl : List V) (ob : OT) (op : Op) (K : V → OT → Prop) : Prop := perf L sl ob op K ∨ perfZ L sl ob op K

section
variable {L : Lg} {m : Nat}
theorem Wk.frz1 {s : List V} {d : Option Tmp} {k : Nat} {es : List (List Tr)} {ob : OT} (hm : m ≤ ob.length) (hs : ∀ v ∈ s, Bd ob.length v) (hob : ∀ o x, getO ob o = some x → OBd ob.length x) :
    Wk L m ⟨setSlot s d (.row ob.length 0 0 es.length), ob ++ [some (.row k 0 es)]⟩ ⟨setSlot s d (.tr (.sl k false es)), ob⟩ := by
  have htle : ∀ x : Option O, TLe ob.length (ob ++ [x]) ob := fun x => ⟨rfl, by simp, fun o x' hx => ⟨x', by rw [getO_low (getO_lt hx)]; exact hx, OLe.refl (hob o x' hx)⟩⟩
  have hcut : ∀ d' : Option Tmp, (∀ j, d' = some j → s.length ≤ j) → Wk L m ⟨setSlot s d' (.row ob.length 0 0 es.length), ob ++ [some (.row k 0 es)]⟩ ⟨setSlot s d' (.tr (.sl k false es)), ob⟩ := by
    intro d' hd'
    have e1 : ∀ v : V, setSlot s d' v = s := by
      intro v
      cases d' with
      | none => rfl
      | some j => exact List.set_eq_of_length_le (hd' j rfl)
    rw [e1, e1]
    exact Wk.cut hm (SlLe.refl hs) (htle _)
  cases d with
  | none => exact hcut none (fun j h => by cases h)
  | some j =>
    by_cases hj : j < s.length
    · intro X a w hX ⟨M, G, R⟩
      have hslot : (setSlot s (some j) (.row ob.length 0 0 es.length))[j]? = some (.row ob.length 0 0 es.length) := by simp [setSlot, hj]
      have hv := R.slots j _ hslot
      have hz : toTr (getO (ob ++ [some (O.row k 0 es)])) (.row ob.length 0 0 es.length) = some (.sl k false es, [(ob.length, none)]) := by
        simp [toTr, rdS, getO_app0, getO_0]
      obtain ⟨M', h1, h2, _, h4⟩ := toTr_sound R.inv (Mle.refl M) R.inv (fun _ _ h => .inl h) hv hz
      have h2' : Inv X.F X.n0 w M' G (ob ++ [none]) := by
        have e : upds (ob ++ [some (O.row k 0 es)]) [(ob.length, none)] = ob ++ [none] := by
          show (ob ++ [some (O.row k 0 es)]).set ob.length none = _
          rw [set_app0]; rfl
        rwa [e] at h2
      have hlen := R.len
      refine ⟨M', cutG ob.length G, ⟨R.m.trans h1, R.g.cut R.dom0 (hX ▸ hm), h2'.le (htle none), R.fr, R.glob.mono h1, ?_, fun t v ht => ?_, fun o o1 o2 => ?_, hX ▸ hm, R.size, R.defers, R.dom0⟩⟩
      · simpa [setSlot] using hlen
      · by_cases htj : t = j
        · subst htj
          simp only [setSlot, List.getElem?_set_self hj, Option.some.injEq] at ht
          subst ht
          exact .tr h4
        · have ht' : s[t]? = some v := by simpa [setSlot, List.getElem?_set_ne (Ne.symm htj)] using ht
          have h0 := R.slots t v (by simpa [setSlot, List.getElem?_set_ne (Ne.symm htj)] using ht')
          exact (h0.mono h1 (Gle.refl G)).cutG (hs v (List.mem_of_getElem? ht'))
      · have := R.free o o1 o2
        rw [cutG_lt (Nat.lt_of_lt_of_le o1 (hX ▸ hm))]; exact this
    · exact hcut (some j) (fun i h => by rw [← Option.some.inj h]; exact Nat.le_of_not_lt hj)
theorem fillE_len {g : Nat → Option O} {size : Nat} : ∀ {ps : List (Nat × V)} {es es' : List (List Tr)} {ks ks' : List (Nat × Option O)}, fillE g size ps es ks = some (es', ks') → es'.length = es.length
  | [], es, es', ks, ks', h => by simp [fillE] at h; rw [h.1]
  | (j, v) :: r, es, es', ks, ks', h => by
    simp only [fillE] at h
    split at h
    · split at h
      · have := fillE_len h; simpa using this
      · cases h
    · cases h
theorem toTr_none {g : Nat → Option O} {v : V} {t : Tr} {ks : List (Nat × Option O)} (h : toTr g v = some (t, ks)) : ∀ p ∈ ks, p.2 = none := by
  unfold toTr at h
  split at h
  · simp only [Option.some.injEq, Prod.mk.injEq] at h
    rw [← h.2]; simp
  · split at h
    · simp only [Option.some.injEq, Prod.mk.injEq] at h
      rw [← h.2]; simp
    · cases h
  · cases h
theorem toTrs_none {g : Nat → Option O} : ∀ {vs : List V} {ts : List Tr} {ks : List (Nat × Option O)}, toTrs g vs = some (ts, ks) → ∀ p ∈ ks, p.2 = none
  | [], ts, ks, h => by simp [toTrs] at h; rw [h.2]; simp
  | v :: r, ts, ks, h => by
    simp only [toTrs] at h
    split at h
    · rename_i t k h1
      split at h
      · rename_i ts' ks' h2
        simp only [Option.some.injEq, Prod.mk.injEq] at h
        rw [← h.2]
        intro p hp
        rcases List.mem_append.1 hp with hp | hp
        · exact toTr_none h1 p hp
        · exact toTrs_none h2 p hp
      · cases h
    · cases h
theorem fillE_none {g : Nat → Option O} {size : Nat} : ∀ {ps : List (Nat × V)} {es es' : List (List Tr)} {ks ks' : List (Nat × Option O)}, fillE g size ps es ks = some (es', ks') → (∀ p ∈ ks, p.2 = none) → ∀ p ∈ ks', p.2 = none
  | [], es, es', ks, ks', h, hk => by simp [fillE] at h; rw [← h.2]; exact hk
  | (j, v) :: r, es, es', ks, ks', h, hk => by
    simp only [fillE] at h
    split at h
    · split at h
      · rename_i ts k h1
        exact fillE_none h (fun p hp => by
          rcases List.mem_append.1 hp with hp | hp
          · exact hk p hp
          · exact toTrs_none h1 p hp)
      · cases h
    · cases h
theorem getO_upds_none : ∀ {ks : List (Nat × Option O)} {ob : OT} {o : Nat} {x : O}, (∀ p ∈ ks, p.2 = none) → getO (upds ob ks) o = some x → getO ob o = some x
  | [], _, _, _, _, h => h
  | (i, y) :: r, ob, o, x, hk, h => by
    have h1 := getO_upds_none (ob := ob.set i y) (fun p hp => hk p (by simp [hp])) h
    obtain rfl : y = none := hk (i, y) (by simp)
    by_cases ho : o = i
    · subst ho
      unfold getO at h1
      by_cases hl : o < ob.length
      · simp [List.getElem?_set_self hl] at h1
      · rw [List.getElem?_eq_none (by simp; omega)] at h1; simp at h1
    · rwa [getO_set_ne (Ne.symm ho)] at h1
theorem perfZ_sound (OO : Ok L) {X : Cx} {E : E} {a : Act} {w : World} (R : RelE L X E a w) {o : Oper} {K : V → OT → Prop} (h : perfZ L E.slots E.ob o.op K) {K' : Act → World → Prop} {Q : Exit → Act → World → Prop}
    (hK : ∀ v ob', K v ob' → ∀ a' w', RelE L X ⟨setSlot E.slots o.dst v, ob'⟩ a' w' → K' a' w') : o.wp L.P a w K' Q := by
  unfold perfZ at h
  split at h
  · rename_i T n ps hop
    split at h
    · rename_i kz hz
      unfold opBuildZ at hz
      split at hz
      · rename_i v0 ks k ver es hb
        simp only [Option.some.injEq] at hz
        subst hz
        have hkn : ∀ p ∈ ks, p.2 = none := by
          unfold opBuildSlice at hb
          split at hb
          · split at hb
            · split at hb
              · rename_i es0 ks0 hf
                simp only [Option.some.injEq, Prod.mk.injEq] at hb
                rw [← hb.2.1]
                exact fillE_none hf (fun p hp => by cases hp)
              · cases hb
            · cases hb
          · cases hb
        have hst : step L.τ L.γ E.slots (getO E.ob) E.ob.length o.op = some (.row E.ob.length 0 0 es.length, ks, some (.row k 0 es)) := by
          rw [hop]
          simp only [step]
          unfold opBuildSlice at hb ⊢
          split at hb
          · split at hb
            · split at hb
              · rename_i es0 ks0 hf
                simp only [Option.some.injEq, Prod.mk.injEq, O.row.injEq] at hb
                obtain ⟨_, rfl, rfl, rfl, rfl⟩ := hb
                have := fillE_len hf
                simp at this
                simp_all
              · cases hb
            · cases hb
          · cases hb
        obtain ⟨M0, G0, R0⟩ := R
        have hbd : ∀ v ∈ E.slots, Bd E.ob.length v := fun v hv => by
          obtain ⟨t, ht⟩ := List.getElem?_of_mem hv
          exact (R0.slots t v ht).bd R0.inv.dom
        have hlow := R0.low
        have hlow' : X.len0 ≤ (upds E.ob ks).length := by rw [upds_length]; exact hlow
        refine perf_sound OO ⟨M0, G0, R0⟩ (K := fun v ob' => v = .row E.ob.length 0 0 es.length ∧ ob' = upds E.ob ks ++ [some (.row k 0 es)]) ?_ (fun v ob' hv a' w' R' => ?_)
        · unfold perf
          rw [hop] at hst ⊢
          simp only [hst]
          exact ⟨by first | rfl | trivial, by first | rfl | trivial⟩
        · obtain ⟨rfl, rfl⟩ := hv
          refine hK _ _ h a' w' ?_
          have hob : ∀ o x, getO (upds E.ob ks) o = some x → OBd (upds E.ob ks).length x := fun o x hx => by
            have h0 := R0.inv.obj o x (getO_upds_none hkn hx)
            rw [upds_length]
            cases h0 with
            | box cs b arr T hg hw hl h => exact mem_idx (fun j c hj => (h j c hj).bd R0.inv.dom)
            | row => trivial
            | nil => trivial
            | iter => trivial
            | mp ks vs b es hg hw hk hbn hl h => exact mem_idx (fun j c hj => (h j c hj).bd R0.inv.dom)
            | mit m n seen b bm hg hm hw => exact R0.inv.dom m _ hm
          have := Wk.frz1 (L := L) (m := X.len0) (s := E.slots) (d := o.dst) (k := k) (es := es) (ob := upds E.ob ks) hlow' (by rw [upds_length]; exact hbd) hob
          rw [upds_length] at this
          exact this X a' w' rfl R'
      · cases hz
    · exact h.elim
  · exact h.elim
theorem perfD_sound (OO : Ok L) {X : Cx} {E : E} {a : Act} {w : World} (R : RelE L X E a w) {o : Oper} {K : V → OT → Prop} (h : perfD L E.slots E.ob o.op K) {K' : Act → World → Prop} {Q : Exit → Act → World → Prop}
    (hK : ∀ v ob', K v ob' → ∀ a' w', RelE L X ⟨setSlot E.slots o.dst v, ob'⟩ a' w' → K' a' w') : o.wp L.P a w K' Q := by
  rcases h with h | h
  · exact perf_sound OO R h hK
  · exact perfZ_sound OO R h hK
end

structure Ent where
  i : Nat
  sl : List V
  op : Op
  v : V

def perfIs (L : Lg) (sl : List V) (ob : OT) (op : Op) (v : V) (ob' : OT) : Prop := perfD L sl ob op fun v' ob'' => v' = v ∧ ob'' = ob'
def holdsAt (L : Lg) (e : Ent) (ob : OT) : Prop := perfIs L e.sl ob e.op e.v ob
def cmpr (pr : List (List Nat)) (i j : Nat) : Bool := (pr.getD i []).contains j || (pr.getD j []).contains i
def pureOp : Op → Bool
  | .move _ => true
  | .assign _ => true
  | .pick .. => true
  | .binOp .. => true
  | .unOp .. => true
  | .nilCheck _ => true
  | .fieldAddr .. => true
  | .field .. => true
  | .index .. => true
  | .extract .. => true
  | .makeFunc (.func _) _ _ => true
  | _ => false

def drw (L : Lg) (all : List Oper) (pr : List (List Nat)) (eff : Nat → Bool) : Nat → List Oper → E → List (Nat × OT) → List Ent → (E → Prop) → Prop
  | _, [], E, _, _, K => K E
  | i, o :: r, E, past, pend, K =>
    match wnt all E.slots o with
    | some true =>
      if eff i = true then perfD L E.slots E.ob o.op fun v ob' => (∀ e ∈ pend, cmpr pr i e.i = false → holdsAt L e ob') ∧ drw L all pr eff (i + 1) r ⟨setSlot E.slots o.dst v, ob'⟩ ((i, E.ob) :: past) pend K
      else perfD L E.slots E.ob o.op fun v ob' => ob' = E.ob ∧ (∀ p ∈ past, cmpr pr i p.1 = false → pureOp o.op = false → holdsAt L ⟨i, E.slots, o.op, v⟩ p.2) ∧
        drw L all pr eff (i + 1) r ⟨setSlot E.slots o.dst v, E.ob⟩ past (if pureOp o.op = true then pend else ⟨i, E.slots, o.op, v⟩ :: pend) K
    | some false => drw L all pr eff (i + 1) r ⟨setSlot E.slots o.dst (.tup []), E.ob⟩ past pend K
    | none => False

section
variable {L : Lg}
theorem perf_ex {sl : List V} {ob : OT} {op : Op} {K : V → OT → Prop} (h : perfD L sl ob op K) : ∃ v ob', perfIs L sl ob op v ob' ∧ K v ob' := by
  unfold perfIs perfD
  rcases h with h | h
  · unfold perf at h ⊢
    split at h
    · split at h
      · rename_i hf
        obtain ⟨res, ob', h1, h2⟩ := h
        refine ⟨res, ob', .inl ?_, h2⟩
        simp only [hf]
        exact ⟨res, ob', h1, rfl, rfl⟩
      · exact h.elim
    · split at h
      · rename_i k hk
        refine ⟨k.1, tab ob k, .inl ?_, h⟩
        simp only [hk]
        exact ⟨trivial, trivial⟩
      · exact h.elim
  · unfold perfZ at h ⊢
    split at h
    · split at h
      · rename_i k hk
        refine ⟨k.1, tab ob k, .inr ?_, h⟩
        simp only [hk]
        exact ⟨trivial, trivial⟩
      · exact h.elim
    · exact h.elim

structure Trc (L : Lg) (all : List Oper) (pr : List (List Nat)) (eff : Nat → Bool) (es : Nat → E) (vs : Nat → V) (bs : Nat → Bool) (i : Nat) (o : Oper) : Prop where
  wnt : wnt all (es i).slots o = some (bs i)
  slots : (es (i + 1)).slots = setSlot (es i).slots o.dst (vs i)
  skip : bs i = false → vs i = .tup [] ∧ (es (i + 1)).ob = (es i).ob
  act : bs i = true → eff i = true → perfIs L (es i).slots (es i).ob o.op (vs i) (es (i + 1)).ob
  read : bs i = true → eff i = false → (es (i + 1)).ob = (es i).ob ∧ perfIs L (es i).slots (es i).ob o.op (vs i) (es i).ob

theorem trace {all : List Oper} {pr : List (List Nat)} {eff : Nat → Bool} {K : E → Prop} : ∀ {r : List Oper} {i : Nat} {E : E} {past : List (Nat × OT)} {pend : List Ent}, drw L all pr eff i r E past pend K →
    ∃ (es : Nat → Ab.E) (vs : Nat → V) (bs : Nat → Bool), es i = E ∧ K (es (i + r.length)) ∧
      (∀ (j : Nat) (o : Oper), r[j]? = some o → Trc L all pr eff es vs bs (i + j) o) ∧
      (∀ (j : Nat) (o : Oper), r[j]? = some o → bs (i + j) = true → eff (i + j) = false → pureOp o.op = false → ∀ p ∈ past, cmpr pr (i + j) p.1 = false → holdsAt L ⟨i + j, (es (i + j)).slots, o.op, vs (i + j)⟩ p.2) ∧
      (∀ (j : Nat) (o : Oper), r[j]? = some o → bs (i + j) = true → eff (i + j) = true → ∀ e ∈ pend, cmpr pr (i + j) e.i = false → holdsAt L e (es (i + j + 1)).ob) ∧
      (∀ (j j' : Nat) (o o' : Oper), r[j]? = some o → r[j']? = some o' → j ≠ j' → bs (i + j) = true → eff (i + j) = false → pureOp o.op = false → bs (i + j') = true → eff (i + j') = true → cmpr pr (i + j) (i + j') = false →
        (j' < j → holdsAt L ⟨i + j, (es (i + j)).slots, o.op, vs (i + j)⟩ (es (i + j')).ob) ∧ (j < j' → holdsAt L ⟨i + j, (es (i + j)).slots, o.op, vs (i + j)⟩ (es (i + j' + 1)).ob))
  | [], i, E, past, pend, h => ⟨fun _ => E, fun _ => .junk, fun _ => false, rfl, h, fun j o hj => (by simp at hj), fun j o hj => (by simp at hj), fun j o hj => (by simp at hj), fun j j' o o' hj => by simp at hj⟩
  | o :: r, i, E, past, pend, h => by
    -- what the first operation does
    have step : ∃ (v : V) (b : Bool) (E1 : Ab.E) (past' : List (Nat × OT)) (pend' : List Ent), drw L all pr eff (i + 1) r E1 past' pend' K ∧
        wnt all E.slots o = some b ∧ E1.slots = setSlot E.slots o.dst v ∧ (b = false → v = .tup [] ∧ E1.ob = E.ob) ∧ (b = true → eff i = true → perfIs L E.slots E.ob o.op v E1.ob) ∧
        (b = true → eff i = false → E1.ob = E.ob ∧ perfIs L E.slots E.ob o.op v E.ob) ∧
        (b = true → eff i = false → pureOp o.op = false → ∀ p ∈ past, cmpr pr i p.1 = false → holdsAt L ⟨i, E.slots, o.op, v⟩ p.2) ∧
        (b = true → eff i = true → ∀ e ∈ pend, cmpr pr i e.i = false → holdsAt L e E1.ob) ∧
        (∀ p ∈ past, p ∈ past') ∧ (∀ e ∈ pend, e ∈ pend') ∧ (b = true → eff i = true → (i, E.ob) ∈ past') ∧ (b = true → eff i = false → pureOp o.op = false → ⟨i, E.slots, o.op, v⟩ ∈ pend') := by
      simp only [drw] at h
      split at h
      · rename_i hw
        split at h
        · rename_i he
          obtain ⟨v, ob', h1, h2, h3⟩ := perf_ex h
          exact ⟨v, true, _, _, _, h3, hw, rfl, fun h => (by cases h), fun _ _ => h1, fun _ hf => (by rw [he] at hf; cases hf), fun _ hf => (by rw [he] at hf; cases hf), fun _ _ => h2,
            fun p hp => (by simp [hp]), fun e he => he, fun _ _ => (by simp), fun _ hf => (by rw [he] at hf; cases hf)⟩
        · rename_i he
          have he' : eff i = false := by simpa using he
          obtain ⟨v, ob', h1, rfl, h2, h3⟩ := perf_ex h
          refine ⟨v, true, _, _, _, h3, hw, rfl, fun h => (by cases h), fun _ hf => absurd hf he, fun _ _ => ⟨rfl, h1⟩, fun _ _ hp p hpp hc => h2 p hpp hc hp, fun _ hf => absurd hf he, fun p hp => hp, fun e hee => ?_, fun _ hf => absurd hf he, fun _ _ hp => ?_⟩
          · split
            · exact hee
            · simp [hee]
          · rw [if_neg (by simp [hp])]; simp
      · rename_i hw
        exact ⟨.tup [], false, _, _, _, h, hw, rfl, fun _ => ⟨rfl, rfl⟩, fun h => (by cases h), fun h => (by cases h), fun h => (by cases h), fun h => (by cases h), fun p hp => hp, fun e he => he, fun h => (by cases h), fun h => (by cases h)⟩
      · exact h.elim
    obtain ⟨v, b, E1, past', pend', hd, s1, s2, s3, s4, s5, s6, s7, s8, s9, s10, s11⟩ := step
    obtain ⟨es, vs, bs, e0, eK, t1, t2, t3, t4⟩ := trace hd
    have hx : ∀ {α : Type} (x : α) (f : Nat → α) (t : Nat), (if i + 1 + t = i then x else f (i + 1 + t)) = f (i + 1 + t) := fun x f t => if_neg (by omega)
    have hj1 : ∀ j, i + (j + 1) = i + 1 + j := fun j => by omega
    refine ⟨fun t => if t = i then E else es t, fun t => if t = i then v else vs t, fun t => if t = i then b else bs t, if_pos rfl, ?_, ?_, ?_, ?_, ?_⟩
    · simp only [List.length_cons]
      rw [hj1, hx]; exact eK
    · intro j o' hj
      cases j with
      | zero =>
        simp at hj; subst hj
        have e1 : es (i + 1) = E1 := e0
        constructor <;> simp [e1] <;> assumption
      | succ j =>
        have := t1 j o' (by simpa using hj)
        rw [hj1]
        constructor
        · simpa only [hx] using this.wnt
        · have h := this.slots; rw [show i + 1 + j + 1 = i + 1 + (j + 1) by omega] at h ⊢; simpa only [hx] using h
        · have h := this.skip; rw [show i + 1 + j + 1 = i + 1 + (j + 1) by omega] at h ⊢; simpa only [hx] using h
        · have h := this.act; rw [show i + 1 + j + 1 = i + 1 + (j + 1) by omega] at h ⊢; simpa only [hx] using h
        · have h := this.read; rw [show i + 1 + j + 1 = i + 1 + (j + 1) by omega] at h ⊢; simpa only [hx] using h
    · intro j o' hj hb he hp p hpp hc
      cases j with
      | zero =>
        simp at hj; subst hj
        simp only [Nat.add_zero, if_true] at hb he hc ⊢
        exact s6 hb he hp p hpp hc
      | succ j =>
        rw [hj1] at hb he hc ⊢
        simp only [hx] at hb ⊢
        exact t2 j o' (by simpa using hj) hb he hp p (s8 p hpp) hc
    · intro j o' hj hb he e hee hc
      cases j with
      | zero =>
        simp at hj; subst hj
        simp only [Nat.add_zero, if_true] at hb he hc ⊢
        rw [if_neg (by omega), e0]
        exact s7 hb he e hee hc
      | succ j =>
        rw [hj1] at hb he hc ⊢
        rw [show i + 1 + j + 1 = i + 1 + (j + 1) by omega]
        simp only [hx] at hb ⊢
        exact t3 j o' (by simpa using hj) hb he e (s9 e hee) hc
    · intro j j' o1 o2 hj hj' hne hb he hp hb' he' hc
      cases j with
      | zero =>
        cases j' with
        | zero => exact absurd rfl hne
        | succ j' =>
          simp at hj; subst hj
          refine ⟨fun h => by omega, fun _ => ?_⟩
          rw [hj1] at hb' he' hc ⊢
          rw [show i + 1 + j' + 1 = i + 1 + (j' + 1) by omega]
          simp only [hx, Nat.add_zero, if_true] at hb hb' he hc ⊢
          exact t3 j' o2 (by simpa using hj') hb' he' _ (s11 hb he hp) (by simpa [cmpr, Bool.or_comm] using hc)
      | succ j =>
        cases j' with
        | zero =>
          refine ⟨fun _ => ?_, fun h => by omega⟩
          simp at hj'; subst hj'
          rw [hj1] at hb he hc ⊢
          simp only [hx, Nat.add_zero, if_true] at hb hb' he' hc ⊢
          exact t2 j o1 (by simpa using hj) hb he hp _ (s10 hb' he') hc
        | succ j' =>
          rw [hj1 j] at hb he hc ⊢
          rw [hj1 j'] at hb' he' hc ⊢
          rw [show i + 1 + j' + 1 = i + 1 + (j' + 1) by omega]
          simp only [hx] at hb hb' ⊢
          have := t4 j j' o1 o2 (by simpa using hj) (by simpa using hj') (by omega) hb he hp hb' he' hc
          exact ⟨fun h => this.1 (by omega), fun h => this.2 (by omega)⟩
end
end Go.Ab
end
section
/- Regions whose order is drawn: each order comes to the text's. -/
namespace Go.Ab
open Go

def chkD (ops : Array Oper) (pr : List (List Nat)) (eff : Nat → Bool) : Bool :=
  (List.range ops.size).all fun i =>
    match ops[i]? with
    | none => true
    | some o =>
      (pr.getD i []).all (fun x => decide (x < i)) &&
      o.after.toList.all (fun e => !Region.binds .any e || ((pr.getD i []).contains e.on && (pr.getD e.on []).all fun x => (pr.getD i []).contains x)) &&
      (pr.getD i []).all (fun x => o.after.toList.any fun e => Region.binds .any e && (e.on == x || (pr.getD e.on []).contains x)) &&
      (List.range ops.size).all (fun j => j == i ||
        match ops[j]? with
        | none => true
        | some q =>
          match q.dst with
          | none => true
          | some d => (!(o.looksAt ops).contains d && o.dst != some d) || cmpr pr i j) &&
      (!eff i || (List.range i).all fun j => !eff j || (pr.getD i []).contains j)

structure Chk (ops : Array Oper) (pr : List (List Nat)) (eff : Nat → Bool) (i : Nat) (o : Oper) : Prop where
  low : ∀ x ∈ pr.getD i [], x < i
  edge : ∀ e ∈ o.after.toList, Region.binds .any e = true → e.on ∈ pr.getD i [] ∧ ∀ x ∈ pr.getD e.on [], x ∈ pr.getD i []
  src : ∀ x ∈ pr.getD i [], ∃ e ∈ o.after.toList, Region.binds .any e = true ∧ (e.on = x ∨ x ∈ pr.getD e.on [])
  dst : ∀ (j : Nat) (q : Oper) (d : Tmp), ops[j]? = some q → j ≠ i → q.dst = some d → (d ∈ o.looksAt ops ∨ o.dst = some d) → cmpr pr i j = true
  eff : eff i = true → ∀ j, j < i → eff j = true → j ∈ pr.getD i []

theorem chkD_spec {ops : Array Oper} {pr : List (List Nat)} {eff : Nat → Bool} (h : chkD ops pr eff = true) {i : Nat} {o : Oper} (ho : ops[i]? = some o) : Chk ops pr eff i o := by
  have hi : i < ops.size := (Array.getElem?_eq_some_iff.1 ho).1
  have h1 := List.all_eq_true.1 h i (List.mem_range.2 hi)
  simp only [ho, Bool.and_eq_true] at h1
  obtain ⟨⟨⟨⟨a, b⟩, c⟩, d⟩, e⟩ := h1
  refine ⟨fun x hx => by simpa using List.all_eq_true.1 a x hx, fun e he hb => ?_, fun x hx => ?_, fun j q t hq hne hd hh => ?_, fun he j hj hej => ?_⟩
  · have := List.all_eq_true.1 b e he
    simp only [hb, Bool.not_true, Bool.false_or, Bool.and_eq_true] at this
    exact ⟨by simpa using this.1, fun x hx => by simpa using List.all_eq_true.1 this.2 x hx⟩
  · have := List.all_eq_true.1 c x hx
    obtain ⟨e, he, h2⟩ := List.any_eq_true.1 this
    simp only [Bool.and_eq_true, Bool.or_eq_true, beq_iff_eq] at h2
    exact ⟨e, he, h2.1, h2.2.imp id (fun h => by simpa using h)⟩
  · have hj : j < ops.size := (Array.getElem?_eq_some_iff.1 hq).1
    have := List.all_eq_true.1 d j (List.mem_range.2 hj)
    simp only [hq, hd, Bool.or_eq_true, beq_iff_eq, Bool.and_eq_true] at this
    rcases this with h' | ⟨h1', h2'⟩ | h'
    · exact absurd h' hne
    · rcases hh with hh | hh
      · simp [hh] at h1'
      · simp [hh] at h2'
    · exact h'
  · simp only [he, Bool.not_true, Bool.false_or] at e
    have := List.all_eq_true.1 e j (List.mem_range.2 hj)
    simpa [hej] using this

section
variable {L : Lg}

theorem evO_at {sl sl' : List V} {t : Nat} (h : sl[t]? = sl'[t]?) : evO sl (.tmp t) = evO sl' (.tmp t) := by simp only [evO, List.getD_eq_getElem?_getD, h]

theorem step_congr {τ : TT} {γ : GT} {sl sl' : List V} {g : Nat → Option O} {nb : Nat} {op : Op} (h : ∀ x ∈ op.operands, evO sl x = evO sl' x) : Ab.step τ γ sl g nb op = Ab.step τ γ sl' g nb op := by
  have pairs : ∀ ps : Array (Nat × Operand), (∀ p ∈ ps, evO sl p.2 = evO sl' p.2) → (ps.toList.map fun p => (p.1, evO sl p.2)) = ps.toList.map fun p => (p.1, evO sl' p.2) := fun ps hp =>
    List.map_congr_left fun p hm => by rw [hp p (by simpa using hm)]
  have args : ∀ ps : Array Operand, (∀ p ∈ ps, evO sl p = evO sl' p) → ps.toList.map (evO sl) = ps.toList.map (evO sl') := fun ps hp =>
    List.map_congr_left fun p hm => hp p (by simpa using hm)
  cases op with
  | build T ps => simp only [Ab.step]; rw [pairs ps fun p hp => h _ (by simp [Op.operands]; exact ⟨_, hp⟩)]
  | buildSlice T n ps => simp only [Ab.step]; rw [pairs ps fun p hp => h _ (by simp [Op.operands]; exact ⟨_, hp⟩)]
  | makeFunc f fs cs =>
    cases f with
    | func f => simp only [Ab.step]; rw [args fs fun p hp => h _ (by simp [Op.operands, hp]), args cs fun p hp => h _ (by simp [Op.operands, hp])]
    | _ => rfl
  | call c =>
    obtain ⟨callee, ar, ts⟩ := c
    cases callee with
    | builtin b => simp only [Ab.step]; rw [args ar fun p hp => h _ (by simp [Op.operands, Call.operands, hp])]
    | _ => rfl
  | slice T x lo hi mx =>
    simp only [Op.operands] at h
    simp only [Ab.step]
    cases lo <;> cases hi <;> cases mx <;> simp_all
  | next x b =>
    simp only [Op.operands] at h
    cases b
    · rfl
    · simp only [Ab.step]; simp_all
  | makeMap t r => cases r <;> rfl
  | _ => simp only [Op.operands] at h; first | (simp only [Ab.step]; done) | (simp only [Ab.step]; simp_all; done)

theorem perf_congr0 {sl sl' : List V} {ob : OT} {op : Op} {K : V → OT → Prop} (h : ∀ x ∈ op.operands, evO sl x = evO sl' x) (hp : perf L sl ob op K) : perf L sl' ob op K := by
  unfold perf at hp ⊢
  split at hp
  · rename_i f args _
    have e1 : evO sl f = evO sl' f := h f (by simp [Op.operands, Call.operands])
    have e2 : args.toList.map (evO sl) = args.toList.map (evO sl') := List.map_congr_left fun p hm => h p (by simp [Op.operands, Call.operands]; exact .inr (by simpa using hm))
    simp only [← e1, ← e2]
    exact hp
  · rename_i hne
    have := step_congr (τ := L.τ) (γ := L.γ) (g := getO ob) (nb := ob.length) h
    rw [← this]; exact hp

theorem perf_congr {sl sl' : List V} {ob : OT} {op : Op} {K : V → OT → Prop} (h : ∀ x ∈ op.operands, evO sl x = evO sl' x) (hp : perfD L sl ob op K) : perfD L sl' ob op K := by
  rcases hp with hp | hp
  · exact .inl (perf_congr0 h hp)
  · refine .inr ?_
    unfold perfZ at hp ⊢
    split at hp
    · rename_i T n ps
      have e : (ps.toList.map fun p => (p.1, evO sl p.2)) = ps.toList.map fun p => (p.1, evO sl' p.2) :=
        List.map_congr_left fun p hm => by rw [h p.2 (by simp [Op.operands]; exact ⟨_, by simpa using hm⟩)]
      rw [e] at hp
      exact hp
    · exact hp.elim

theorem wnt_congr {ops : Array Oper} {sl sl' : List V} {o : Oper} (h : ∀ d ∈ o.looksAt ops, sl[d]? = sl'[d]?) : wnt ops.toList sl o = wnt ops.toList sl' o := by
  unfold wnt
  cases hg : o.guard with
  | none => rfl
  | some p =>
    obtain ⟨j, b⟩ := p
    simp only
    cases hj : ops.toList[j]? with
    | none => rfl
    | some oj =>
      simp only
      cases hd : oj.dst with
      | none => rfl
      | some d =>
        simp only
        have : d ∈ o.looksAt ops := by
          have hj' : ops[j]? = some oj := by simpa using hj
          simp [Oper.looksAt, hg, hj', hd]
        rw [h d this]

theorem perf_pure {sl : List V} {ob ob2 : OT} {op : Op} {v : V} (hp : pureOp op = true) (h : perfIs L sl ob op v ob) : perfIs L sl ob2 op v ob2 := by
  unfold perfIs at h ⊢
  rcases h with h | h
  rotate_left
  · unfold perfZ at h
    split at h
    · cases hp
    · exact h.elim
  refine .inl ?_
  unfold perf at h ⊢
  cases op with
  | move x => simp only [Ab.step, tab, upds] at h ⊢; exact ⟨h.1, trivial⟩
  | assign x => simp only [Ab.step, tab, upds] at h ⊢; exact ⟨h.1, trivial⟩
  | pick c a b =>
    simp only [Ab.step] at h ⊢
    split at h
    · rename_i k hk
      split at hk
      · simp only [Option.some.injEq] at hk; subst hk; exact ⟨h.1, rfl⟩
      · cases hk
    · exact h.elim
  | binOp op T x y yT =>
    simp only [Ab.step] at h ⊢
    cases hk : opBin L.τ op T (evO sl x) (evO sl y) with
    | none => simp [hk] at h
    | some k =>
      simp only [hk] at h ⊢
      have hu : k.2.1 = [] ∧ k.2.2 = none := by
        unfold opBin pv at hk
        repeat' (first | (simp only [Option.some.injEq] at hk; subst hk; exact ⟨rfl, rfl⟩) | (split at hk) | (cases hk; done))
      obtain ⟨k1, k2, k3⟩ := k
      obtain ⟨rfl, rfl⟩ : k2 = [] ∧ k3 = none := hu
      exact ⟨h.1, rfl⟩
  | unOp op T x =>
    simp only [Ab.step] at h ⊢
    cases hk : opUn op (evO sl x) with
    | none => simp [hk] at h
    | some k =>
      simp only [hk] at h ⊢
      have hu : k.2.1 = [] ∧ k.2.2 = none := by
        unfold opUn pv at hk
        repeat' (first | (simp only [Option.some.injEq] at hk; subst hk; exact ⟨rfl, rfl⟩) | (split at hk) | (cases hk; done))
      obtain ⟨k1, k2, k3⟩ := k
      obtain ⟨rfl, rfl⟩ : k2 = [] ∧ k3 = none := hu
      exact ⟨h.1, rfl⟩
  | nilCheck x =>
    simp only [Ab.step] at h ⊢
    cases hk : nilOk (evO sl x) with
    | none => simp [hk] at h
    | some k =>
      simp only [hk] at h ⊢
      have hu : k.2.1 = [] ∧ k.2.2 = none := by
        unfold nilOk at hk
        repeat' (first | (simp only [Option.some.injEq] at hk; subst hk; exact ⟨rfl, rfl⟩) | (split at hk) | (cases hk; done))
      obtain ⟨k1, k2, k3⟩ := k
      obtain ⟨rfl, rfl⟩ : k2 = [] ∧ k3 = none := hu
      exact ⟨h.1, rfl⟩
  | fieldAddr T x f =>
    simp only [Ab.step] at h ⊢
    cases hk : opFieldAddr L.τ T (evO sl x) f with
    | none => simp [hk] at h
    | some k =>
      simp only [hk] at h ⊢
      have hu : k.2.1 = [] ∧ k.2.2 = none := by
        unfold opFieldAddr at hk
        repeat' (first | (simp only [Option.some.injEq] at hk; subst hk; exact ⟨rfl, rfl⟩) | (split at hk) | (cases hk; done))
      obtain ⟨k1, k2, k3⟩ := k
      obtain ⟨rfl, rfl⟩ : k2 = [] ∧ k3 = none := hu
      exact ⟨h.1, rfl⟩
  | field T x f =>
    simp only [Ab.step] at h ⊢
    cases hk : opField L.τ T (evO sl x) f with
    | none => simp [hk] at h
    | some k =>
      simp only [hk] at h ⊢
      have hu : k.2.1 = [] ∧ k.2.2 = none := by
        unfold opField at hk
        repeat' (first | (simp only [Option.some.injEq] at hk; subst hk; exact ⟨rfl, rfl⟩) | (split at hk) | (cases hk; done))
      obtain ⟨k1, k2, k3⟩ := k
      obtain ⟨rfl, rfl⟩ : k2 = [] ∧ k3 = none := hu
      exact ⟨h.1, rfl⟩
  | index T x ix =>
    simp only [Ab.step] at h ⊢
    cases hk : opIndex L.τ T (evO sl x) (evO sl ix) with
    | none => simp [hk] at h
    | some k =>
      simp only [hk] at h ⊢
      have hu : k.2.1 = [] ∧ k.2.2 = none := by
        unfold opIndex at hk
        repeat' (first | (simp only [Option.some.injEq] at hk; subst hk; exact ⟨rfl, rfl⟩) | (split at hk) | (cases hk; done))
      obtain ⟨k1, k2, k3⟩ := k
      obtain ⟨rfl, rfl⟩ : k2 = [] ∧ k3 = none := hu
      exact ⟨h.1, rfl⟩
  | extract x j =>
    simp only [Ab.step] at h ⊢
    cases hk : opExtract (evO sl x) j with
    | none => simp [hk] at h
    | some k =>
      simp only [hk] at h ⊢
      have hu : k.2.1 = [] ∧ k.2.2 = none := by
        unfold opExtract at hk
        repeat' (first | (simp only [Option.some.injEq] at hk; subst hk; exact ⟨rfl, rfl⟩) | (split at hk) | (cases hk; done))
      obtain ⟨k1, k2, k3⟩ := k
      obtain ⟨rfl, rfl⟩ : k2 = [] ∧ k3 = none := hu
      exact ⟨h.1, rfl⟩
  | makeFunc f fs cs =>
    cases f with
    | func f => simp only [Ab.step, tab, upds] at h ⊢; exact ⟨h.1, trivial⟩
    | _ => simp [pureOp] at hp
  | _ => simp [pureOp] at hp

def sD (ops : Array Oper) (vs : Nat → V) (sl : List V) (D : Nat → Bool) : Nat → List V
  | 0 => sl
  | k + 1 => if D k = true then setSlot (sD ops vs sl D k) ((ops[k]?).bind (·.dst)) (vs k) else sD ops vs sl D k

theorem setSlot_len (sl : List V) (d : Option Tmp) (v : V) : (setSlot sl d v).length = sl.length := by cases d <;> simp [setSlot]
theorem setSlot_get (sl : List V) (d : Option Tmp) (v : V) (t : Nat) : (setSlot sl d v)[t]? = if d = some t ∧ t < sl.length then some v else sl[t]? := by
  cases d with
  | none => simp [setSlot]
  | some d =>
    simp only [setSlot]
    by_cases h : d = t
    · subst h
      by_cases hl : d < sl.length
      · simp [hl]
      · simp [hl]
    · rw [List.getElem?_set_ne h]; simp [h]
variable {ops : Array Oper} {vs : Nat → V} {sl : List V}
theorem sD_len (D : Nat → Bool) : ∀ k, (sD ops vs sl D k).length = sl.length
  | 0 => rfl
  | k + 1 => by
    simp only [sD]
    split
    · rw [setSlot_len, sD_len D k]
    · exact sD_len D k
theorem sD_agree {D D' : Nat → Bool} {t : Nat} : ∀ k, (∀ j, j < k → (ops[j]?).bind (·.dst) = some t → D j = D' j) → (sD ops vs sl D k)[t]? = (sD ops vs sl D' k)[t]?
  | 0, _ => rfl
  | k + 1, h => by
    have ih := sD_agree (D := D) (D' := D') k (fun j hj => h j (by omega))
    simp only [sD]
    by_cases hd : (ops[k]?).bind (·.dst) = some t
    · rw [h k (by omega) hd]
      split
      · rw [setSlot_get, setSlot_get, sD_len, sD_len, ih]
      · exact ih
    · have : ∀ (s : List V), (setSlot s ((ops[k]?).bind (·.dst)) (vs k))[t]? = s[t]? := fun s => by rw [setSlot_get, if_neg (fun h => hd h.1)]
      split <;> split <;> simp only [this, ih]
theorem sD_first {i : Nat} : ∀ k, i ≤ k → sD ops vs sl (fun j => decide (j < i)) k = sD ops vs sl (fun _ => true) i := by
  have low : ∀ k, k ≤ i → sD ops vs sl (fun j => decide (j < i)) k = sD ops vs sl (fun _ => true) k := by
    intro k
    induction k with
    | zero => intro _; rfl
    | succ k ih => intro h; simp only [sD]; rw [ih (by omega)]; simp [show k < i by omega]
  intro k hk
  induction k with
  | zero => have : i = 0 := by omega
            subst this; rfl
  | succ k ih =>
    by_cases h : i = k + 1
    · subst h; exact low _ (Nat.le_refl _)
    · simp only [sD]
      rw [if_neg (by simp; omega)]
      exact ih (by omega)
end
end Go.Ab
end
section
/- Regions whose order is drawn: the rule. -/
namespace Go.Ab
open Go

section
variable {L : Lg} {X : Cx} {ops : Array Oper} {pr : List (List Nat)} {eff : Nat → Bool} {es : Nat → E} {vs : Nat → V} {bs : Nat → Bool}

structure TrcAll (L : Lg) (ops : Array Oper) (pr : List (List Nat)) (eff : Nat → Bool) (es : Nat → E) (vs : Nat → V) (bs : Nat → Bool) : Prop where
  chk : ∀ i o, ops[i]? = some o → Chk ops pr eff i o
  one : ∀ i o, ops[i]? = some o → Trc L ops.toList pr eff es vs bs i o
  rd : ∀ i j o o', ops[i]? = some o → ops[j]? = some o' → i ≠ j → bs i = true → eff i = false → pureOp o.op = false → bs j = true → eff j = true → cmpr pr i j = false →
    (j < i → holdsAt L ⟨i, (es i).slots, o.op, vs i⟩ (es j).ob) ∧ (i < j → holdsAt L ⟨i, (es i).slots, o.op, vs i⟩ (es (j + 1)).ob)

def act (eff bs : Nat → Bool) (i : Nat) : Prop := eff i = true ∧ bs i = true

theorem TrcAll.slots (T : TrcAll L ops pr eff es vs bs) : ∀ i, i ≤ ops.size → (es i).slots = sD ops vs (es 0).slots (fun _ => true) i
  | 0, _ => rfl
  | i + 1, h => by
    have ho : ops[i]? = some ops[i] := Array.getElem?_eq_getElem (by omega)
    rw [(T.one i _ ho).slots, T.slots i (by omega)]
    simp [sD, ho]

theorem TrcAll.still (T : TrcAll L ops pr eff es vs bs) {i : Nat} (hi : i < ops.size) (h : ¬ act eff bs i) : (es (i + 1)).ob = (es i).ob := by
  have ho : ops[i]? = some ops[i] := Array.getElem?_eq_getElem hi
  have t := T.one i _ ho
  cases hb : bs i with
  | false => exact (t.skip hb).2
  | true =>
    cases he : eff i with
    | true => exact absurd ⟨he, hb⟩ h
    | false => exact (t.read hb he).1
theorem TrcAll.stills (T : TrcAll L ops pr eff es vs bs) {a : Nat} : ∀ k, a + k ≤ ops.size → (∀ j, a ≤ j → j < a + k → ¬ act eff bs j) → (es (a + k)).ob = (es a).ob
  | 0, _, _ => rfl
  | k + 1, h, hn => by
    have := T.stills (a := a) k (by omega) (fun j h1 h2 => hn j h1 (by omega))
    rw [show a + (k + 1) = a + k + 1 by omega, T.still (by omega) (hn (a + k) (by omega) (by omega)), this]
theorem TrcAll.between (T : TrcAll L ops pr eff es vs bs) {a b : Nat} (hab : a ≤ b) (hb : b ≤ ops.size) (hn : ∀ j, a ≤ j → j < b → ¬ act eff bs j) : (es b).ob = (es a).ob := by
  have := T.stills (a := a) (b - a) (by omega) (fun j h1 h2 => hn j h1 (by omega))
  rwa [show a + (b - a) = b by omega] at this
theorem TrcAll.same (T : TrcAll L ops pr eff es vs bs) {a b : Nat} (ha : a ≤ ops.size) (hb : b ≤ ops.size) (h : ∀ j, j < ops.size → act eff bs j → (j < a ↔ j < b)) : (es a).ob = (es b).ob := by
  rcases Nat.le_total a b with hab | hab
  · exact (T.between hab hb (fun j h1 h2 hact => by have := (h j (by omega) hact).2 h2; omega)).symm
  · exact T.between hab ha (fun j h1 h2 hact => by have := (h j (by omega) hact).1 h2; omega)

structure Dn (ops : Array Oper) (pr : List (List Nat)) (eff : Nat → Bool) (es : Nat → E) (vs : Nat → V) (bs : Nat → Bool) (D : Nat → Bool) (S : E) : Prop where
  closed : ∀ i, i < ops.size → D i = true → ∀ x ∈ pr.getD i [], D x = true
  slots : S.slots = sD ops vs (es 0).slots D ops.size
  ob : ∃ t, t ≤ ops.size ∧ S.ob = (es t).ob ∧ ∀ j, j < ops.size → act eff bs j → (D j = true ↔ j < t)

theorem exists_least {P : Nat → Prop} : ∀ k a, (∃ j, a ≤ j ∧ j < a + k ∧ P j) → ∃ j, a ≤ j ∧ j < a + k ∧ P j ∧ ∀ i, a ≤ i → i < j → ¬ P i
  | 0, a, ⟨j, h1, h2, _⟩ => by omega
  | k + 1, a, ⟨j, h1, h2, h3⟩ => by
    by_cases hP : P a
    · exact ⟨a, Nat.le_refl _, by omega, hP, fun i h1 h2 => by omega⟩
    · have hne : a ≠ j := fun e => by subst e; exact hP h3
      have : ∃ j, a + 1 ≤ j ∧ j < a + 1 + k ∧ P j := ⟨j, by omega, by omega, h3⟩
      obtain ⟨i, a1, a2, a3, a4⟩ := exists_least k (a + 1) this
      refine ⟨i, by omega, by omega, a3, fun x hx1 hx2 => ?_⟩
      rcases Nat.eq_or_lt_of_le hx1 with e | e
      · subst e; exact hP
      · exact a4 x (by omega) hx2
theorem exists_greatest {P : Nat → Prop} : ∀ k a, (∃ j, a ≤ j ∧ j < a + k ∧ P j) → ∃ j, a ≤ j ∧ j < a + k ∧ P j ∧ ∀ i, j < i → i < a + k → ¬ P i
  | 0, a, ⟨j, h1, h2, _⟩ => by omega
  | k + 1, a, ⟨j, h1, h2, h3⟩ => by
    by_cases hP : P (a + k)
    · exact ⟨a + k, by omega, by omega, hP, fun i h1 h2 => by omega⟩
    · have hne : j ≠ a + k := fun e => by subst e; exact hP h3
      have : ∃ j, a ≤ j ∧ j < a + k ∧ P j := ⟨j, h1, by omega, h3⟩
      obtain ⟨i, a1, a2, a3, a4⟩ := exists_greatest k a this
      refine ⟨i, a1, by omega, a3, fun x hx1 hx2 => ?_⟩
      rcases Nat.eq_or_lt_of_le (show x ≤ a + k by omega) with e | e
      · subst e; exact hP
      · exact a4 x hx1 e

variable {D : Nat → Bool} {S : E}

theorem Dn.look (T : TrcAll L ops pr eff es vs bs) (N : Dn ops pr eff es vs bs D S) {i : Nat} {o : Oper} (ho : ops[i]? = some o) (hD : D i = false) (hpre : ∀ x ∈ pr.getD i [], D x = true) {t : Tmp} (ht : t ∈ o.looksAt ops) : S.slots[t]? = (es i).slots[t]? := by
  have hi : i < ops.size := (Array.getElem?_eq_some_iff.1 ho).1
  rw [N.slots, T.slots i (by omega), ← sD_first ops.size (by omega)]
  refine sD_agree _ fun j hj hd => ?_
  have hoj : ops[j]? = some ops[j] := Array.getElem?_eq_getElem hj
  rw [hoj] at hd
  by_cases hji : j = i
  · subst hji; simp [hD]
  · have hc := (T.chk i o ho).dst j _ t hoj hji hd (.inl ht)
    unfold cmpr at hc
    rw [Bool.or_eq_true] at hc
    rcases hc with hc | hc
    · have hm : j ∈ pr.getD i [] := by simpa using hc
      have := (T.chk i o ho).low j hm
      rw [hpre j hm]; simp [this]
    · have hm : i ∈ pr.getD j [] := by simpa using hc
      have hlt := (T.chk j _ hoj).low i hm
      have : D j = false := by
        cases hDj : D j with
        | false => rfl
        | true => have := N.closed j hj hDj i hm; rw [hD] at this; cases this
      rw [this]; simp; omega

theorem Dn.ev (T : TrcAll L ops pr eff es vs bs) (N : Dn ops pr eff es vs bs D S) {i : Nat} {o : Oper} (ho : ops[i]? = some o) (hD : D i = false) (hpre : ∀ x ∈ pr.getD i [], D x = true) : ∀ x ∈ o.op.operands, evO (es i).slots x = evO S.slots x := fun x hx => by
  cases x with
  | tmp t => exact evO_at (N.look T ho hD hpre (List.mem_append_left _ (List.mem_filterMap.2 ⟨.tmp t, by simpa using hx, rfl⟩))).symm
  | _ => rfl

def addD (D : Nat → Bool) (i : Nat) : Nat → Bool := fun j => if j = i then true else D j

theorem Dn.put (T : TrcAll L ops pr eff es vs bs) (N : Dn ops pr eff es vs bs D S) {i : Nat} {o : Oper} (ho : ops[i]? = some o) (hD : D i = false) (hpre : ∀ x ∈ pr.getD i [], D x = true) :
    setSlot S.slots o.dst (vs i) = sD ops vs (es 0).slots (addD D i) ops.size := by
  have hi : i < ops.size := (Array.getElem?_eq_some_iff.1 ho).1
  apply List.ext_getElem?
  intro t
  rw [setSlot_get]
  have hlen : S.slots.length = (es 0).slots.length := by rw [N.slots, sD_len]
  by_cases hd : o.dst = some t
  · -- behind it nobody writes there
    have key : (sD ops vs (es 0).slots (addD D i) ops.size)[t]? = (sD ops vs (es 0).slots (fun j => decide (j < i + 1)) ops.size)[t]? := by
      refine sD_agree _ fun j hj hdj => ?_
      have hoj : ops[j]? = some ops[j] := Array.getElem?_eq_getElem hj
      rw [hoj] at hdj
      by_cases hji : j = i
      · subst hji; simp [addD]
      · have hc := (T.chk i o ho).dst j _ t hoj hji hdj (.inr hd)
        unfold cmpr at hc
        rw [Bool.or_eq_true] at hc
        simp only [addD, if_neg hji]
        rcases hc with hc | hc
        · have hm : j ∈ pr.getD i [] := by simpa using hc
          have := (T.chk i o ho).low j hm
          rw [hpre j hm]; simp; omega
        · have hm : i ∈ pr.getD j [] := by simpa using hc
          have hlt := (T.chk j _ hoj).low i hm
          have : D j = false := by
            cases hDj : D j with
            | false => rfl
            | true => have := N.closed j hj hDj i hm; rw [hD] at this; cases this
          rw [this]; simp; omega
    rw [key, sD_first ops.size (by omega)]
    simp only [sD, if_true, ho, Option.bind_some]
    rw [setSlot_get, sD_len, hlen]
    by_cases hl : t < (es 0).slots.length
    · rw [if_pos ⟨hd, hl⟩, if_pos ⟨hd, hl⟩]
    · rw [if_neg (fun h => hl h.2), if_neg (fun h => hl h.2)]
      rw [List.getElem?_eq_none (by omega), List.getElem?_eq_none (by rw [sD_len]; omega)]
  · rw [if_neg (fun h => hd h.1), N.slots]
    refine sD_agree _ fun j hj hdj => ?_
    by_cases hji : j = i
    · subst hji; rw [ho] at hdj; exact absurd hdj hd
    · simp [addD, hji]

theorem Dn.closed' (_ : TrcAll L ops pr eff es vs bs) (N : Dn ops pr eff es vs bs D S) {i : Nat} (hpre : ∀ x ∈ pr.getD i [], D x = true) : ∀ j, j < ops.size → addD D i j = true → ∀ x ∈ pr.getD j [], addD D i x = true := by
  intro j hj hDj x hx
  by_cases hji : j = i
  · subst hji; simp only [addD]; split
    · rfl
    · exact hpre x hx
  · simp only [addD, if_neg hji] at hDj
    simp only [addD]; split
    · rfl
    · exact N.closed j hj hDj x hx

theorem Dn.step (O : Ok L) (T : TrcAll L ops pr eff es vs bs) (N : Dn ops pr eff es vs bs D S) {i : Nat} {o : Oper} (ho : ops[i]? = some o) (hD : D i = false) (hpre : ∀ x ∈ pr.getD i [], D x = true) {a : Act} {w : World} (R : RelE L X S a w)
    {K' : Act → World → Prop} {Q : Exit → Act → World → Prop} (hK : ∀ S' a' w', Dn ops pr eff es vs bs (addD D i) S' → RelE L X S' a' w' → K' a' w') : wpOp L.P ops Q i K' a w := by
  have hi : i < ops.size := (Array.getElem?_eq_some_iff.1 ho).1
  have t := T.one i o ho
  have hw : wnt ops.toList S.slots o = some (bs i) := by rw [wnt_congr (fun d hd => N.look T ho hD hpre hd)]; exact t.wnt
  have hwr : Region.wanted o (yielded ops a.tmps) = bs i := by
    obtain ⟨M, G, R⟩ := R
    exact wnt_sound R.slots R.len hw
  unfold wpOp
  simp only [ho, hwr]
  obtain ⟨t0, ht0, hob, htab⟩ := N.ob
  cases hb : bs i with
  | false =>
    simp only [Bool.false_eq_true, if_false]
    refine hK ⟨setSlot S.slots o.dst (.tup []), S.ob⟩ _ _ ⟨N.closed' T hpre, ?_, t0, ht0, hob, fun j hj ha => ?_⟩ (R.put o.dst)
    · have := N.put T ho hD hpre
      rwa [(t.skip hb).1] at this
    · have hji : j ≠ i := fun e => by subst e; have := ha.2; rw [hb] at this; cases this
      simp only [addD, if_neg hji]
      exact htab j hj ha
  | true =>
    simp only [if_true]
    left
    have hev := N.ev T ho hD hpre
    have hput := N.put T ho hD hpre
    have hDpos : ∀ j, j < ops.size → i ∈ pr.getD j [] → D j = false := fun j hj hm => by
      cases hDj : D j with
      | false => rfl
      | true => have := N.closed j hj hDj i hm; rw [hD] at this; cases this
    cases he : eff i with
    | true =>
      have hlt : ∀ j, j < ops.size → act eff bs j → (D j = true ↔ j < i) := fun j hj ha => by
        have hoj : ops[j]? = some ops[j] := Array.getElem?_eq_getElem hj
        constructor
        · intro hDj
          rcases Nat.lt_trichotomy j i with h | h | h
          · exact h
          · subst h; rw [hD] at hDj; cases hDj
          · have hm := (T.chk j _ hoj).eff ha.1 i h he
            rw [hDpos j hj hm] at hDj; cases hDj
        · intro h
          exact hpre j ((T.chk i o ho).eff he j h ha.1)
      have hsame : S.ob = (es i).ob := by
        rw [hob]
        exact T.same ht0 (by omega) (fun j hj ha => ((htab j hj ha).symm.trans (hlt j hj ha)))
      have hp := perf_congr hev (t.act hb he)
      rw [← hsame] at hp
      refine perfD_sound O R hp (fun v ob' hv a' w' R' => ?_)
      obtain ⟨rfl, rfl⟩ := hv
      refine hK ⟨setSlot S.slots o.dst (vs i), (es (i + 1)).ob⟩ _ _ ⟨N.closed' T hpre, hput, i + 1, by omega, rfl, fun j hj ha => ?_⟩ R'
      simp only [addD]
      by_cases hji : j = i
      · subst hji; simp
      · rw [if_neg hji, hlt j hj ha]; omega
    | false =>
      have hrd := t.read hb he
      have hp : perfIs L (es i).slots S.ob o.op (vs i) S.ob := by
        cases hpu : pureOp o.op with
        | true => exact perf_pure hpu hrd.2
        | false =>
          by_cases hsm : S.ob = (es i).ob
          · rw [hsm]; exact hrd.2
          · rcases Nat.lt_or_ge i t0 with hlt | hge
            · -- effects behind it have run already
              have hex : ∃ j, i ≤ j ∧ j < i + (t0 - i) ∧ act eff bs j := by
                refine Classical.byContradiction fun hn => hsm ?_
                rw [hob]
                exact T.between (by omega) ht0 (fun j h1 h2 ha => hn ⟨j, h1, by omega, ha⟩)
              obtain ⟨j, h1, h2, h3, h4⟩ := exists_greatest (t0 - i) i hex
              have hji : j ≠ i := fun e => by subst e; have := h3.1; rw [he] at this; cases this
              have hj : j < ops.size := by omega
              have hoj : ops[j]? = some ops[j] := Array.getElem?_eq_getElem hj
              have hDj : D j = true := (htab j hj h3).2 (by omega)
              have hc : cmpr pr i j = false := by
                unfold cmpr
                rw [Bool.or_eq_false_iff]
                constructor
                · cases hh : (pr.getD i []).contains j with
                  | false => rfl
                  | true => have := (T.chk i o ho).low j (by simpa using hh); omega
                · cases hh : (pr.getD j []).contains i with
                  | false => rfl
                  | true => have := hDpos j hj (by simpa using hh); rw [hDj] at this; cases this
              have := (T.rd i j o _ ho hoj (Ne.symm hji) hb he hpu h3.2 h3.1 hc).2 (by omega)
              have hq : (es t0).ob = (es (j + 1)).ob := T.between (by omega) ht0 (fun x h5 h6 => h4 x (by omega) (by omega))
              rw [hob, hq]
              exact this
            · -- effects ahead of it have not run yet
              have hex : ∃ j, t0 ≤ j ∧ j < t0 + (i - t0) ∧ act eff bs j := by
                refine Classical.byContradiction fun hn => hsm ?_
                rw [hob]
                exact (T.between hge (by omega) (fun j h1 h2 ha => hn ⟨j, h1, by omega, ha⟩)).symm
              obtain ⟨j, h1, h2, h3, h4⟩ := exists_least (i - t0) t0 hex
              have hj : j < ops.size := by omega
              have hoj : ops[j]? = some ops[j] := Array.getElem?_eq_getElem hj
              have hDj : D j = false := by
                cases hh : D j with
                | false => rfl
                | true => have := (htab j hj h3).1 hh; omega
              have hc : cmpr pr i j = false := by
                unfold cmpr
                rw [Bool.or_eq_false_iff]
                constructor
                · cases hh : (pr.getD i []).contains j with
                  | false => rfl
                  | true => have := hpre j (by simpa using hh); rw [hDj] at this; cases this
                · cases hh : (pr.getD j []).contains i with
                  | false => rfl
                  | true => have := (T.chk j _ hoj).low i (by simpa using hh); omega
              have := (T.rd i j o _ ho hoj (by omega) hb he hpu h3.2 h3.1 hc).1 (by omega)
              have hq : (es j).ob = (es t0).ob := T.between (by omega) (by omega) (fun x h5 h6 => h4 x h5 h6)
              rw [hob, ← hq]
              exact this
      have hp' := perf_congr hev hp
      refine perfD_sound O R hp' (fun v ob' hv a' w' R' => ?_)
      obtain ⟨rfl, rfl⟩ := hv
      refine hK ⟨setSlot S.slots o.dst (vs i), S.ob⟩ _ _ ⟨N.closed' T hpre, hput, t0, ht0, hob, fun j hj ha => ?_⟩ R'
      have hji : j ≠ i := fun e => by subst e; have := ha.1; rw [he] at this; cases this
      simp only [addD, if_neg hji]
      exact htab j hj ha

def cnt (n : Nat) (listed : Array Bool) : Nat := (List.range n).countP fun i => !listed.getD i true

theorem countP_lt {l : List Nat} {p q : Nat → Bool} (h : ∀ x ∈ l, q x = true → p x = true) {y : Nat} (hy : y ∈ l) (h1 : p y = true) (h2 : q y = false) : l.countP q < l.countP p := by
  induction l with
  | nil => simp at hy
  | cons a r ih =>
    have hle : r.countP q ≤ r.countP p := List.countP_mono_left (fun x hx => h x (by simp [hx]))
    rw [List.countP_cons, List.countP_cons]
    by_cases hya : y = a
    · subst hya; rw [h1, h2]; simp; omega
    · have := ih (fun x hx => h x (by simp [hx])) (by simpa [hya] using hy)
      have ha := h a (by simp)
      cases hq : q a <;> cases hp : p a <;> simp [hq, hp] at ha ⊢ <;> omega

theorem drawn_go (O : Ok L) (T : TrcAll L ops pr eff es vs bs) {K : E → Prop} (hKn : K (es ops.size)) {Q : Exit → Act → World → Prop} (hQ : ∀ E a w, K E → RelE L X E a w → Q .normal a w) :
    ∀ (fuel : Nat) (listed : Array Bool) (S : E) (a : Act) (w : World), listed.size = ops.size → cnt ops.size listed ≤ fuel → Dn ops pr eff es vs bs (fun i => listed.getD i false) S → RelE L X S a w →
      wpAny L.P .any ops Q fuel listed a w := by
  have isReady : ∀ {listed : Array Bool} {i : Nat}, i ∈ Region.ready .any ops listed ↔ i < ops.size ∧ listed.getD i true = false ∧ ((ops[i]?).map (·.after.all fun e => !Region.binds .any e || listed.getD e.on false)).getD false = true := by
    intro listed i
    simp [Region.ready]
  -- none is ready: all have run
  have fin : ∀ {listed : Array Bool} {S : E} {a : Act} {w : World}, listed.size = ops.size → Region.ready .any ops listed = [] → Dn ops pr eff es vs bs (fun i => listed.getD i false) S → RelE L X S a w → Q .normal a w := by
    intro listed S a w hsz hr N R
    have all : ∀ k, k ≤ ops.size → ∀ i, i < k → listed.getD i false = true := by
      intro k
      induction k with
      | zero => intro _ i hi; omega
      | succ k ih =>
        intro hk i hi
        rcases Nat.lt_or_ge i k with h | h
        · exact ih (by omega) i h
        · have : i = k := by omega
          subst this
          refine Classical.byContradiction fun hn => ?_
          have hin : i < ops.size := by omega
          have hoi : ops[i]? = some ops[i] := Array.getElem?_eq_getElem hin
          have hm : i ∈ Region.ready .any ops listed := by
            rw [isReady]
            refine ⟨hin, ?_, ?_⟩
            · have hl : i < listed.size := by omega
              simp only [Array.getD_eq_getD_getElem?, Array.getElem?_eq_getElem hl, Option.getD_some] at hn ⊢
              simpa using hn
            · rw [hoi]
              simp only [Option.map_some, Option.getD_some]
              rw [Array.all_eq_true]
              intro j hj
              cases hb : Region.binds .any (ops[i].after[j]) with
              | false => simp
              | true =>
                simp only [Bool.not_true, Bool.false_or]
                have hm := ((T.chk i _ hoi).edge _ (by simp) hb).1
                exact ih (by omega) _ ((T.chk i _ hoi).low _ hm)
          rw [hr] at hm
          simp at hm
    have hS : S.slots = (es ops.size).slots := by
      rw [N.slots, T.slots ops.size (Nat.le_refl _)]
      apply List.ext_getElem?
      intro t
      exact sD_agree _ (fun j hj _ => all ops.size (Nat.le_refl _) j hj)
    have hob : S.ob = (es ops.size).ob := by
      obtain ⟨t, ht, h1, h2⟩ := N.ob
      rw [h1]
      exact T.same ht (Nat.le_refl _) (fun j hj ha => by
        have := (h2 j hj ha).1 (all ops.size (Nat.le_refl _) j hj)
        exact ⟨fun _ => hj, fun _ => this⟩)
    have : S = es ops.size := by cases S; cases hh : es ops.size; rw [hh] at hS hob; simp only at hS hob; rw [hS, hob]
    subst this
    exact hQ _ a w hKn R
  intro fuel
  induction fuel with
  | zero =>
    intro listed S a w hsz hc N R
    have hr : Region.ready .any ops listed = [] := by
      cases h : Region.ready .any ops listed with
      | nil => rfl
      | cons i r =>
        have hm : i ∈ Region.ready .any ops listed := by rw [h]; simp
        rw [isReady] at hm
        have h0 : cnt ops.size listed = 0 := by omega
        unfold cnt at h0
        rw [List.countP_eq_zero] at h0
        have := h0 i (List.mem_range.2 hm.1)
        simp [hm.2.1] at this
    exact ⟨hr, fin hsz hr N R⟩
  | succ fuel ih =>
    intro listed S a w hsz hc N R
    refine ⟨fun hr => fin hsz hr N R, fun i hi => ?_⟩
    rw [isReady] at hi
    obtain ⟨hin, h1, h2⟩ := hi
    have hl : i < listed.size := by omega
    have hoi : ops[i]? = some ops[i] := Array.getElem?_eq_getElem hin
    have hD : listed.getD i false = false := by
      simp only [Array.getD_eq_getD_getElem?, Array.getElem?_eq_getElem hl, Option.getD_some] at h1 ⊢
      exact h1
    rw [hoi] at h2
    simp only [Option.map_some, Option.getD_some, Array.all_eq_true] at h2
    have hedge : ∀ e ∈ ops[i].after.toList, Region.binds .any e = true → listed.getD e.on false = true := by
      intro e he hb
      obtain ⟨j, hj, rfl⟩ := List.getElem_of_mem he
      have := h2 j (by simpa using hj)
      simp only [Array.getElem_toList] at hb ⊢
      simpa [hb] using this
    have hpre : ∀ x ∈ pr.getD i [], (fun i => listed.getD i false) x = true := by
      intro x hx
      obtain ⟨e, he, hb, hh⟩ := (T.chk i _ hoi).src x hx
      rcases hh with rfl | hh
      · exact hedge e he hb
      · have hm := (T.chk i _ hoi).edge e he hb
        have := (T.chk i _ hoi).low _ hm.1
        exact N.closed e.on (by omega) (hedge e he hb) x hh
    refine N.step O T hoi hD hpre R (fun S' a' w' N' R' => ih _ S' a' w' (by simp [hsz]) ?_ ?_ R')
    · have : cnt ops.size (listed.setIfInBounds i true) < cnt ops.size listed := by
        unfold cnt
        refine countP_lt (fun x hx hq => ?_) (List.mem_range.2 hin) (by simp [h1]) ?_
        · by_cases hxi : x = i
          · subst hxi; simp [h1]
          · have : (listed.setIfInBounds i true).getD x true = listed.getD x true := by
              simp [Array.getD_eq_getD_getElem?, Array.getElem?_setIfInBounds_ne (Ne.symm hxi)]
            rw [this] at hq; exact hq
        · simp [Array.getD_eq_getD_getElem?, hl]
      omega
    · have hfun : (fun j => (listed.setIfInBounds i true).getD j false) = addD (fun j => listed.getD j false) i := by
        funext j
        simp only [addD]
        by_cases hji : j = i
        · subst hji; simp [Array.getD_eq_getD_getElem?, hl]
        · simp [Array.getD_eq_getD_getElem?, Array.getElem?_setIfInBounds_ne (Ne.symm hji), hji]
      rw [hfun]; exact N'

theorem RelE.drawn {E : E} {a : Act} {w : World} (R : RelE L X E a w) (d : Nat) : RelE L X E a { w with drawn := d } := by
  obtain ⟨M, G, R⟩ := R
  refine ⟨M, G, { R with inv := ?_, fr := ?_, size := R.size }⟩
  · exact ⟨R.inv.mem, fun o x hx => by cases R.inv.obj o x hx with
      | box cs b arr T hg hw hl h => exact .box cs b arr T hg hw hl h
      | row k ver es f ri b st arr T hg hv hmax hk hb hw hcap hlen he h => exact .row k ver es f ri b st arr T hg hv hmax hk hb hw hcap hlen he h
      | nil k ver f ri hg hv hmax hk hb hcap => exact .nil k ver f ri hg hv hmax hk hb hcap
      | iter s pos b hg hw => exact .iter s pos b hg hw
      | mp ks vs b es hg hw hk hbn hl h => exact .mp ks vs b es hg hw hk hbn hl h
      | mit m n seen b bm hg hm hw => exact .mit m n seen b bm hg hm hw, R.inv.dis, R.inv.off, R.inv.own, R.inv.dom⟩
  · exact ⟨R.fr.os, R.fr.tape, R.fr.output, R.fr.size, R.fr.block⟩

theorem awp_drawn (O : Ok L) {m id : Nat} {E : E} {K : Ab.E → Prop} (hc : chkD ops pr eff = true) (h : drw L ops.toList pr eff 0 ops.toList E [] [] K) : AWP L m (.region id ops true) E (fun e E' => e = .normal ∧ K E') := by
  intro X a w hm R
  obtain ⟨es, vs, bs, e0, eK, t1, _, _, t4⟩ := trace h
  simp only [Nat.zero_add] at eK t1 t4
  have T : TrcAll L ops pr eff es vs bs := by
    refine ⟨fun i o ho => chkD_spec hc ho, fun i o ho => t1 i o (by simpa using ho), fun i j o o' ho ho' hne h1 h2 h3 h4 h5 h6 => ?_⟩
    have := t4 i j o o' (by simpa using ho) (by simpa using ho') hne h1 h2 h3 h4 h5 h6
    exact this
  refine wp_region_any O.mixed (drawn_go O T (K := K) (by simpa using eK) (fun E' a' w' hk hr => ⟨E', ⟨rfl, hk⟩, hr⟩) ops.size _ (es 0) a _ (by simp) ?_ ?_ (by rw [e0]; exact R.drawn _))
  · unfold cnt
    exact Nat.le_trans (List.countP_le_length) (by simp)
  · refine ⟨fun i hi hD => ?_, ?_, 0, Nat.zero_le _, rfl, fun j hj _ => ?_⟩
    · simp [Array.getD_eq_getD_getElem?, hi] at hD
    · have : ∀ k, k ≤ ops.size → sD ops vs (es 0).slots (fun i => (Array.replicate ops.size false).getD i false) k = (es 0).slots := by
        intro k
        induction k with
        | zero => intro _; rfl
        | succ k ih => intro hk; simp only [sD]; rw [if_neg (by simp [Array.getD_eq_getD_getElem?, show k < ops.size by omega]), ih (by omega)]
      exact (this _ (Nat.le_refl _)).symm
    · simp [Array.getD_eq_getD_getElem?, hj]
end
end Go.Ab
end
section
/- Drawn regions over sparse slots. -/
namespace Go.Ab
open Go

theorem bool_ne {x b : Bool} (h : ¬ x = b) : x = !b := by cases x <;> cases b <;> simp_all
structure EntA where
  i : Nat
  sl : AS
  op : Op
  v : V

def runOpZ (L : Lg) (n : Nat) (all : List Oper) (op : Op) (d : Option Tmp) (r : List Oper) (as : AS) (ob : OT) (Q : KC) : Prop :=
  match op with
  | .buildSlice T m ps => optK (opBuildZ L.τ (getO ob) T m (ps.toList.map fun p => (p.1, evA n as p.2))) (cK L n all r d as ob Q)
  | op => runOp L n all op d r as ob Q
def runOpE (b : Bool) (L : Lg) (n : Nat) (all : List Oper) (op : Op) (d : Option Tmp) (r : List Oper) (as : AS) (ob : OT) (Q : KC) : Prop := if b = true then runOp L n all op d r as ob Q else runOpZ L n all op d r as ob Q
section
variable {L : Lg} {n : Nat} {all r : List Oper} {as as' : AS} {ob ob' : OT} {Q : KC} {d : Option Tmp} {op : Op} {b : Bool}
@[congr] theorem runOpE_congr {b' : Bool} (hb : b = b') (h1 : as = as') (h2 : ob = ob') : runOpE b L n all op d r as ob Q = runOpE b' L n all op d r as' ob' Q := by rw [hb, h1, h2]
@[congr] theorem runOpZ_congr (h1 : as = as') (h2 : ob = ob') : runOpZ L n all op d r as ob Q = runOpZ L n all op d r as' ob' Q := by rw [h1, h2]
@[go_sem] theorem runOpE_t : runOpE true L n all op d r as ob Q = runOp L n all op d r as ob Q := rfl
@[go_sem] theorem runOpE_f : runOpE false L n all op d r as ob Q = runOpZ L n all op d r as ob Q := rfl
@[go_sem] theorem runOpZ_lit {T : TypeId} {m : Nat} {ps : Array (Nat × Operand)} : runOpZ L n all (.buildSlice T m ps) d r as ob Q = optK (opBuildZ L.τ (getO ob) T m (ps.toList.map fun p => (p.1, evA n as p.2))) (cK L n all r d as ob Q) := rfl
@[go_sem] theorem runOpZ_move {x : Operand} : runOpZ L n all (.move x) d r as ob Q = runOp L n all (.move x) d r as ob Q := rfl
@[go_sem] theorem runOpZ_assign {x : Operand} : runOpZ L n all (.assign x) d r as ob Q = runOp L n all (.assign x) d r as ob Q := rfl
@[go_sem] theorem runOpZ_pick {x y z : Operand} : runOpZ L n all (.pick x y z) d r as ob Q = runOp L n all (.pick x y z) d r as ob Q := rfl
@[go_sem] theorem runOpZ_alloc {T : TypeId} : runOpZ L n all (.alloc T) d r as ob Q = runOp L n all (.alloc T) d r as ob Q := rfl
@[go_sem] theorem runOpZ_box {T : TypeId} {x : Operand} : runOpZ L n all (.box T x) d r as ob Q = runOp L n all (.box T x) d r as ob Q := rfl
@[go_sem] theorem runOpZ_build {T : TypeId} {ps : Array (Nat × Operand)} : runOpZ L n all (.build T ps) d r as ob Q = runOp L n all (.build T ps) d r as ob Q := rfl
@[go_sem] theorem runOpZ_load {T : TypeId} {x : Operand} : runOpZ L n all (.load T x) d r as ob Q = runOp L n all (.load T x) d r as ob Q := rfl
@[go_sem] theorem runOpZ_store {T : TypeId} {x y : Operand} : runOpZ L n all (.store T x y) d r as ob Q = runOp L n all (.store T x y) d r as ob Q := rfl
@[go_sem] theorem runOpZ_nilCheck {x : Operand} : runOpZ L n all (.nilCheck x) d r as ob Q = runOp L n all (.nilCheck x) d r as ob Q := rfl
@[go_sem] theorem runOpZ_binOp {o : BinOp} {T : TypeId} {x y : Operand} {U : TypeId} : runOpZ L n all (.binOp o T x y U) d r as ob Q = runOp L n all (.binOp o T x y U) d r as ob Q := rfl
@[go_sem] theorem runOpZ_unOp {o : UnOp} {T : TypeId} {x : Operand} : runOpZ L n all (.unOp o T x) d r as ob Q = runOp L n all (.unOp o T x) d r as ob Q := rfl
@[go_sem] theorem runOpZ_convert {S T : TypeId} {x : Operand} : runOpZ L n all (.convert S T x) d r as ob Q = runOp L n all (.convert S T x) d r as ob Q := rfl
@[go_sem] theorem runOpZ_makeFunc {f : Fn} {x y : Array Operand} : runOpZ L n all (.makeFunc f x y) d r as ob Q = runOp L n all (.makeFunc f x y) d r as ob Q := rfl
@[go_sem] theorem runOpZ_makeSlice {T : TypeId} {x y : Operand} : runOpZ L n all (.makeSlice T x y) d r as ob Q = runOp L n all (.makeSlice T x y) d r as ob Q := rfl
@[go_sem] theorem runOpZ_slice {T : TypeId} {x : Operand} {y z w : Option Operand} : runOpZ L n all (.slice T x y z w) d r as ob Q = runOp L n all (.slice T x y z w) d r as ob Q := rfl
@[go_sem] theorem runOpZ_fieldAddr {T : TypeId} {x : Operand} {f : Nat} : runOpZ L n all (.fieldAddr T x f) d r as ob Q = runOp L n all (.fieldAddr T x f) d r as ob Q := rfl
@[go_sem] theorem runOpZ_field {T : TypeId} {x : Operand} {f : Nat} : runOpZ L n all (.field T x f) d r as ob Q = runOp L n all (.field T x f) d r as ob Q := rfl
@[go_sem] theorem runOpZ_indexAddr {T : TypeId} {x y : Operand} : runOpZ L n all (.indexAddr T x y) d r as ob Q = runOp L n all (.indexAddr T x y) d r as ob Q := rfl
@[go_sem] theorem runOpZ_index {T : TypeId} {x y : Operand} : runOpZ L n all (.index T x y) d r as ob Q = runOp L n all (.index T x y) d r as ob Q := rfl
@[go_sem] theorem runOpZ_extract {x : Operand} {f : Nat} : runOpZ L n all (.extract x f) d r as ob Q = runOp L n all (.extract x f) d r as ob Q := rfl
@[go_sem] theorem runOpZ_makeMap {T : TypeId} {x : Option Operand} : runOpZ L n all (.makeMap T x) d r as ob Q = runOp L n all (.makeMap T x) d r as ob Q := rfl
@[go_sem] theorem runOpZ_insert {T : TypeId} {x k v : Operand} : runOpZ L n all (.insert T x k v) d r as ob Q = runOp L n all (.insert T x k v) d r as ob Q := rfl
@[go_sem] theorem runOpZ_mapUpdate {T : TypeId} {x k v : Operand} : runOpZ L n all (.mapUpdate T x k v) d r as ob Q = runOp L n all (.mapUpdate T x k v) d r as ob Q := rfl
@[go_sem] theorem runOpZ_lookup {T : TypeId} {x k : Operand} {ok : Bool} : runOpZ L n all (.lookup T x k ok) d r as ob Q = runOp L n all (.lookup T x k ok) d r as ob Q := rfl
@[go_sem] theorem runOpZ_entry {x : Operand} : runOpZ L n all (.entry x) d r as ob Q = runOp L n all (.entry x) d r as ob Q := rfl
@[go_sem] theorem runOpZ_range {T : TypeId} {x : Operand} : runOpZ L n all (.range T x) d r as ob Q = runOp L n all (.range T x) d r as ob Q := rfl
@[go_sem] theorem runOpZ_next {x : Operand} {f : Bool} : runOpZ L n all (.next x f) d r as ob Q = runOp L n all (.next x f) d r as ob Q := rfl
@[go_sem] theorem runOpZ_call {c : Call} : runOpZ L n all (.call c) d r as ob Q = runOp L n all (.call c) d r as ob Q := rfl
attribute [go_sem] opBuildZ
end
def kIs (n : Nat) (v : V) (ob2 : OT) : KC := fun _ as ob => lk as n = v ∧ ob = ob2
def holdsA (L : Lg) (n : Nat) (all : List Oper) (e : EntA) (ob : OT) : Prop := runOpZ L n all e.op (some n) [] e.sl ob (kIs n e.v ob)
def pendOk (L : Lg) (n : Nat) (all : List Oper) (pr : List (List Nat)) (i : Nat) : List EntA → OT → Prop
  | [], _ => True
  | e :: r, ob => (cmpr pr i e.i = false → holdsA L n all e ob) ∧ pendOk L n all pr i r ob
def pastOk (L : Lg) (n : Nat) (all : List Oper) (pr : List (List Nat)) (e : EntA) : List (Nat × OT) → Prop
  | [] => True
  | p :: r => (cmpr pr e.i p.1 = false → holdsA L n all e p.2) ∧ pastOk L n all pr e r

def runD (L : Lg) (n : Nat) (all : List Oper) (pr : List (List Nat)) (eff : Nat → Bool) : Nat → List Oper → AS → OT → List (Nat × OT) → List EntA → KC → Prop
  | _, [], as, ob, _, _, Q => Q .normal as ob
  | i, o :: r, as, ob, past, pend, Q =>
    let body : AS → Prop := fun as => runOpE (eff i) L n all o.op (some n) [] as ob (fun _ as' ob' =>
      if eff i = true then pendOk L n all pr i pend ob' ∧ runD L n all pr eff (i + 1) r (ins o.dst (lk as' n) as) ob' ((i, ob) :: past) pend Q
      else ob' = ob ∧ (pureOp o.op = false → pastOk L n all pr ⟨i, as, o.op, lk as' n⟩ past) ∧
        runD L n all pr eff (i + 1) r (ins o.dst (lk as' n) as) ob past (if pureOp o.op = true then pend else ⟨i, as, o.op, lk as' n⟩ :: pend) Q)
    match o.guard with
    | none => body as
    | some (j, b) => brV (gv n all as j) b (body (ins (gdst all j) (vbool b) as)) (runD L n all pr eff (i + 1) r (ins o.dst (.tup []) (ins (gdst all j) (vbool !b) as)) ob past pend Q)
        (runD L n all pr eff (i + 1) r (ins o.dst (.tup []) as) ob past pend Q)

def kD (L : Lg) (n : Nat) (all : List Oper) (pr : List (List Nat)) (eff : Nat → Bool) (i : Nat) (o : Oper) (r : List Oper) (as : AS) (ob : OT) (past : List (Nat × OT)) (pend : List EntA) (Q : KC) : KC := fun _ as' ob' =>
  if eff i = true then pendOk L n all pr i pend ob' ∧ runD L n all pr eff (i + 1) r (ins o.dst (lk as' n) as) ob' ((i, ob) :: past) pend Q
  else ob' = ob ∧ (pureOp o.op = false → pastOk L n all pr ⟨i, as, o.op, lk as' n⟩ past) ∧
    runD L n all pr eff (i + 1) r (ins o.dst (lk as' n) as) ob past (if pureOp o.op = true then pend else ⟨i, as, o.op, lk as' n⟩ :: pend) Q

section
variable {L : Lg} {n : Nat} {all : List Oper} {pr : List (List Nat)} {eff : Nat → Bool} {i : Nat} {o : Oper} {r : List Oper} {as : AS} {ob : OT} {past : List (Nat × OT)} {pend : List EntA} {Q : KC}
  {d : Option Tmp} {op : Op} {ty : TypeId} {pos : String} {af : Array Edge}
@[go_sem] theorem runD_nil : runD L n all pr eff i [] as ob past pend Q = Q .normal as ob := rfl
@[go_sem] theorem runD_free : runD L n all pr eff i (⟨d, op, ty, pos, af, none⟩ :: r) as ob past pend Q = runOpE (eff i) L n all op (some n) [] as ob (kD L n all pr eff i ⟨d, op, ty, pos, af, none⟩ r as ob past pend Q) := rfl
def brH (L : Lg) (n : Nat) (all : List Oper) (pr : List (List Nat)) (eff : Nat → Bool) (i : Nat) (r : List Oper) (op : Op) (d : Option Tmp) (ty : TypeId) (pos : String) (af : Array Edge) (as : AS) (ob : OT) (past : List (Nat × OT)) (pend : List EntA) (Q : KC) (j : Nat) (b : Bool) (v : V) : Prop :=
  brV v b (runOpE (eff i) L n all op (some n) [] (ins (gdst all j) (vbool b) as) ob (kD L n all pr eff i ⟨d, op, ty, pos, af, some (j, b)⟩ r (ins (gdst all j) (vbool b) as) ob past pend Q))
      (runD L n all pr eff (i + 1) r (ins d (.tup []) (ins (gdst all j) (vbool !b) as)) ob past pend Q) (runD L n all pr eff (i + 1) r (ins d (.tup []) as) ob past pend Q)
@[go_sem] theorem runD_grd {j : Nat} {b : Bool} : runD L n all pr eff i (⟨d, op, ty, pos, af, some (j, b)⟩ :: r) as ob past pend Q = brH L n all pr eff i r op d ty pos af as ob past pend Q j b (gv n all as j) := rfl
section
variable {j : Nat}
@[go_sem] theorem brH_tt : brH L n all pr eff i r op d ty pos af as ob past pend Q j true (vbool true) = runOpE (eff i) L n all op (some n) [] (ins (gdst all j) (vbool true) as) ob (kD L n all pr eff i ⟨d, op, ty, pos, af, some (j, true)⟩ r (ins (gdst all j) (vbool true) as) ob past pend Q) := brV_tt
@[go_sem] theorem brH_ff : brH L n all pr eff i r op d ty pos af as ob past pend Q j false (vbool false) = runOpE (eff i) L n all op (some n) [] (ins (gdst all j) (vbool false) as) ob (kD L n all pr eff i ⟨d, op, ty, pos, af, some (j, false)⟩ r (ins (gdst all j) (vbool false) as) ob past pend Q) := brV_ff
@[go_sem] theorem brH_tf : brH L n all pr eff i r op d ty pos af as ob past pend Q j false (vbool true) = runD L n all pr eff (i + 1) r (ins d (.tup []) (ins (gdst all j) (vbool true) as)) ob past pend Q := brV_tf
@[go_sem] theorem brH_ft : brH L n all pr eff i r op d ty pos af as ob past pend Q j true (vbool false) = runD L n all pr eff (i + 1) r (ins d (.tup []) (ins (gdst all j) (vbool false) as)) ob past pend Q := brV_ft
@[go_sem] theorem brH_tup {b : Bool} : brH L n all pr eff i r op d ty pos af as ob past pend Q j b (.tup []) = runD L n all pr eff (i + 1) r (ins d (.tup []) as) ob past pend Q := rfl
end
@[go_sem] theorem kD_eq {v : V} {ob' : OT} {g : Option (Nat × Bool)} {as0 : AS} : kD L n all pr eff i ⟨d, op, ty, pos, af, g⟩ r as ob past pend Q .normal ((n, v) :: as0) ob' =
    if eff i = true then pendOk L n all pr i pend ob' ∧ runD L n all pr eff (i + 1) r (ins d v as) ob' ((i, ob) :: past) pend Q
    else ob' = ob ∧ (pureOp op = false → pastOk L n all pr ⟨i, as, op, v⟩ past) ∧ runD L n all pr eff (i + 1) r (ins d v as) ob past (if pureOp op = true then pend else ⟨i, as, op, v⟩ :: pend) Q := by
  simp [kD, lk]
@[go_sem] theorem kIs_eq {v v' : V} {ob' ob2 : OT} {as0 : AS} : kIs n v ob2 .normal ((n, v') :: as0) ob' = (v' = v ∧ ob' = ob2) := by simp [kIs, lk]

theorem perf_one0 {K : V → OT → Prop} (h : runOp L n all op (some n) [] as ob (fun _ as' ob' => K (lk as' n) ob')) : perf L (mkS n as) ob op K := by
  have := perf_runOp h
  have key : ∀ v ob', run L n all [] (ins (some n) v as) ob' (fun _ as' ob' => K (lk as' n) ob') → K v ob' := fun v ob' h => by
    rw [run_nil] at h
    simpa [ins, lk] using h
  unfold perf at this ⊢
  split at this
  · split at this
    · obtain ⟨res, ob', h1, h2⟩ := this
      exact ⟨res, ob', h1, key _ _ h2⟩
    · exact this.elim
  · split at this
    · exact key _ _ this
    · exact this.elim

theorem perf_one {K : V → OT → Prop} {b : Bool} (h : runOpE b L n all op (some n) [] as ob (fun _ as' ob' => K (lk as' n) ob')) : perfD L (mkS n as) ob op K := by
  unfold runOpE at h
  split at h
  · exact .inl (perf_one0 h)
  · unfold runOpZ at h
    split at h
    · rename_i T m ps
      refine .inr ?_
      unfold perfZ
      have e : (ps.toList.map fun p => (p.1, evO (mkS n as) p.2)) = ps.toList.map fun p => (p.1, evA n as p.2) := by
        have : evO (mkS n as) = evA n as := funext (evO_mkS n as)
        rw [this]
      simp only [e]
      unfold optK at h
      split at h
      · rename_i kz hz
        try simp only [hz]
        unfold cK at h
        rw [run_nil] at h
        simpa [ins, lk] using h
      · exact h.elim
    · exact .inl (perf_one0 h)

theorem perf_mono {K K' : V → OT → Prop} {sl : List V} (hk : ∀ v ob', K v ob' → K' v ob') (h : perfD L sl ob op K) : perfD L sl ob op K' := by
  obtain ⟨v, ob', h1, h2⟩ := perf_ex h
  unfold perfIs at h1
  rcases h1 with h1 | h1
  · refine .inl ?_
    unfold perf at h1 ⊢
    split at h1
    · split at h1
      · obtain ⟨res, ob1, a, rfl, rfl⟩ := h1
        exact ⟨res, ob1, a, hk _ _ h2⟩
      · exact h1.elim
    · split at h1
      · obtain ⟨rfl, rfl⟩ := h1
        exact hk _ _ h2
      · exact h1.elim
  · refine .inr ?_
    unfold perfZ at h1 ⊢
    split at h1
    · split at h1
      · obtain ⟨rfl, rfl⟩ := h1
        exact hk _ _ h2
      · exact h1.elim
    · exact h1.elim

def EntA.ent (n : Nat) (e : EntA) : Ent := ⟨e.i, mkS n e.sl, e.op, e.v⟩
theorem holdsA_sound {e : EntA} (h : holdsA L n all e ob) : holdsAt L (e.ent n) ob := by
  unfold holdsA at h
  exact perf_one (b := false) (K := fun v ob' => v = e.v ∧ ob' = ob) h
theorem pendOk_sound : ∀ {pend : List EntA} {ob : OT}, pendOk L n all pr i pend ob → ∀ e ∈ pend.map (EntA.ent n), cmpr pr i e.i = false → holdsAt L e ob
  | [], _, _, e, he, _ => by simp at he
  | x :: r, ob, h, e, he, hc => by
    simp only [List.map_cons, List.mem_cons] at he
    rcases he with rfl | he
    · exact holdsA_sound (h.1 hc)
    · exact pendOk_sound h.2 e he hc
theorem pastOk_sound {e : EntA} : ∀ {past : List (Nat × OT)}, pastOk L n all pr e past → ∀ p ∈ past, cmpr pr e.i p.1 = false → holdsAt L (e.ent n) p.2
  | [], _, p, hp, _ => by simp at hp
  | x :: r, h, p, hp, hc => by
    simp only [List.mem_cons] at hp
    rcases hp with rfl | hp
    · exact holdsA_sound (h.1 hc)
    · exact pastOk_sound h.2 p hp hc

theorem runD_sound : ∀ {ops : List Oper} {i : Nat} {as : AS} {ob : OT} {past : List (Nat × OT)} {pend : List EntA}, runD L n all pr eff i ops as ob past pend Q →
    drw L all pr eff i ops ⟨mkS n as, ob⟩ past (pend.map (EntA.ent n)) (liftQ n Q .normal)
  | [], i, as, ob, past, pend, h => ⟨as, ob, rfl, h⟩
  | o :: r, i, as, ob, past, pend, h => by
    have body : ∀ as0, mkS n as0 = mkS n as → runOpE (eff i) L n all o.op (some n) [] as0 ob (fun _ as' ob' =>
        if eff i = true then pendOk L n all pr i pend ob' ∧ runD L n all pr eff (i + 1) r (ins o.dst (lk as' n) as0) ob' ((i, ob) :: past) pend Q
        else ob' = ob ∧ (pureOp o.op = false → pastOk L n all pr ⟨i, as0, o.op, lk as' n⟩ past) ∧
          runD L n all pr eff (i + 1) r (ins o.dst (lk as' n) as0) ob past (if pureOp o.op = true then pend else ⟨i, as0, o.op, lk as' n⟩ :: pend) Q) →
        (if eff i = true then perfD L (mkS n as) ob o.op fun v ob' => (∀ e ∈ pend.map (EntA.ent n), cmpr pr i e.i = false → holdsAt L e ob') ∧ drw L all pr eff (i + 1) r ⟨setSlot (mkS n as) o.dst v, ob'⟩ ((i, ob) :: past) (pend.map (EntA.ent n)) (liftQ n Q .normal)
        else perfD L (mkS n as) ob o.op fun v ob' => ob' = ob ∧ (∀ p ∈ past, cmpr pr i p.1 = false → pureOp o.op = false → holdsAt L ⟨i, mkS n as, o.op, v⟩ p.2) ∧
          drw L all pr eff (i + 1) r ⟨setSlot (mkS n as) o.dst v, ob⟩ past (if pureOp o.op = true then pend.map (EntA.ent n) else ⟨i, mkS n as, o.op, v⟩ :: pend.map (EntA.ent n)) (liftQ n Q .normal)) := by
      intro as0 hs h
      cases he : eff i with
      | true =>
        simp only [if_true]
        simp only [he, if_true] at h
        have := perf_one (K := fun v ob' => pendOk L n all pr i pend ob' ∧ runD L n all pr eff (i + 1) r (ins o.dst v as0) ob' ((i, ob) :: past) pend Q) h
        rw [hs] at this
        refine perf_mono (fun v ob' hh => ⟨pendOk_sound hh.1, ?_⟩) this
        have := runD_sound hh.2
        rwa [← setSlot_mkS, hs] at this
      | false =>
        simp only [Bool.false_eq_true, if_false]
        simp only [he, Bool.false_eq_true, if_false] at h
        have := perf_one (K := fun v ob' => ob' = ob ∧ (pureOp o.op = false → pastOk L n all pr ⟨i, as0, o.op, v⟩ past) ∧
          runD L n all pr eff (i + 1) r (ins o.dst v as0) ob past (if pureOp o.op = true then pend else ⟨i, as0, o.op, v⟩ :: pend) Q) h
        rw [hs] at this
        refine perf_mono (fun v ob' hh => ⟨hh.1, fun p hp hc hpu => ?_, ?_⟩) this
        · have := pastOk_sound (hh.2.1 hpu) p hp hc
          simp only [EntA.ent, hs] at this
          exact this
        · have := runD_sound hh.2.2
          rw [← setSlot_mkS, hs] at this
          split
          · rename_i hp; rw [if_pos hp] at this; exact this
          · rename_i hp; rw [if_neg hp] at this; simpa [EntA.ent, hs] using this
    have skip : ∀ as0, mkS n as0 = mkS n as → runD L n all pr eff (i + 1) r (ins o.dst (.tup []) as0) ob past pend Q →
        drw L all pr eff (i + 1) r ⟨setSlot (mkS n as) o.dst (.tup []), ob⟩ past (pend.map (EntA.ent n)) (liftQ n Q .normal) := fun as0 hs h => by
      have := runD_sound h
      rwa [← setSlot_mkS, hs] at this
    unfold runD at h
    unfold drw
    cases hg : o.guard with
    | none =>
      have hw : wnt all (mkS n as) o = some true := by simp [wnt, hg]
      simp only [hg] at h
      simp only [hw]
      exact body as rfl h
    | some p =>
      obtain ⟨j, b⟩ := p
      simp only [hg] at h
      have hgv : ∀ {v}, gv n all as j = v → v ≠ .junk → ∃ oj d, all[j]? = some oj ∧ oj.dst = some d ∧ (mkS n as)[d]? = some v := by
        intro v hv hne
        unfold gv gdst at hv
        cases ho : all[j]? with
        | none => simp [ho] at hv; exact absurd hv.symm hne
        | some oj =>
          cases hd : oj.dst with
          | none => simp [ho, hd] at hv; exact absurd hv.symm hne
          | some d =>
            simp only [ho, hd, Option.bind_some, evA] at hv
            by_cases hlt : d < n
            · refine ⟨oj, d, rfl, hd, ?_⟩
              rw [if_pos hlt] at hv
              simp [mkS, hlt, hv]
            · rw [if_neg hlt] at hv; exact absurd hv.symm hne
      unfold brV at h
      split at h
      · rename_i x hv
        obtain ⟨oj, d, h1, h2, h3⟩ := hgv hv (by simp)
        have hw : wnt all (mkS n as) o = some (x == b) := by unfold wnt; simp only [hg, h1, h2, h3]
        simp only [hw]
        have hsame : ∀ y, x = y → mkS n (ins (gdst all j) (vbool y) as) = mkS n as := by
          intro y hy
          subst hy
          have hd : gdst all j = some d := by simp [gdst, h1, h2]
          rw [hd, ← setSlot_mkS]
          apply List.ext_getElem?
          intro i
          by_cases hi : d = i
          · subst hi
            have hlt : d < (mkS n as).length := (List.getElem?_eq_some_iff.1 h3).1
            simp only [setSlot]
            rw [List.getElem?_set_self hlt, h3]
          · simp only [setSlot]
            rw [List.getElem?_set_ne hi]
        by_cases hx : x = b
        · have : (x == b) = true := by simpa using hx
          simp only [this]
          exact body _ (hsame b hx) (h.1 hx)
        · have : (x == b) = false := by simpa using hx
          have hn : x = !b := bool_ne hx
          simp only [this]
          exact skip _ (hsame _ hn) (h.2 hn)
      · rename_i hv
        obtain ⟨oj, d, h1, h2, h3⟩ := hgv hv (by simp)
        have hw : wnt all (mkS n as) o = some false := by unfold wnt; simp only [hg, h1, h2, h3]
        simp only [hw]
        exact skip as rfl h
      · exact h.elim

theorem W_drawn (O : Ok L) {m id : Nat} {ops : Array Oper} (pr : List (List Nat)) (eff : Nat → Bool) (hc : chkD ops pr eff = true) (h : runD L n ops.toList pr eff 0 ops.toList as ob [] [] Q) : W L m n (.region id ops true) as ob Q := by
  show (if true = true then _ else _)
  rw [if_pos rfl]
  refine (awp_drawn O hc (runD_sound h)).mono fun e E' ⟨he, hk⟩ => ?_
  subst he; exact hk
end
attribute [go_sem] pendOk pastOk holdsA pureOp
end Go.Ab
end
section
/- The walk, piece by piece: control, loops beside plain functions, joins. -/
namespace Go.Ab
open Go Go.Pp

section
variable {L : Lg} {m n : Nat} {as as' : AS} {ob ob' : OT} {Q : KC}

def X (L : Lg) (m n : Nat) (c : Code) (as : AS) (ob : OT) (Q : KC) : Prop := AWP L m c ⟨mkS n as, ob⟩ (liftQ n Q)
@[congr] theorem X_congr {c : Code} (h1 : as = as') (h2 : ob = ob') : X L m n c as ob Q = X L m n c as' ob' Q := by rw [h1, h2]
theorem X.to {c : Code} (h : To L m n as ob as' ob') (k : X L m n c as' ob' Q) : X L m n c as ob Q := AWP.weak h k
theorem X.mono {c : Code} {Q' : KC} (h : X L m n c as ob Q) (k : ∀ e as ob, Q e as ob → Q' e as ob) : X L m n c as ob Q' :=
  AWP.mono h fun e _ ⟨as, ob, he, hq⟩ => ⟨as, ob, he, k e as ob hq⟩

def kS (L : Lg) (m n : Nat) (b : Code) (Q : KC) : KC := fun e as ob => match e with | .normal => X L m n b as ob Q | e => Q e as ob
@[congr] theorem kS_congr {b : Code} {e : Exit} (h1 : as = as') (h2 : ob = ob') : kS L m n b Q e as ob = kS L m n b Q e as' ob' := by rw [h1, h2]
@[go_sem] theorem kS_n {b : Code} : kS L m n b Q .normal as ob = X L m n b as ob Q := rfl
@[go_sem] theorem kS_e {b : Code} {i : Nat} : kS L m n b Q (.exit i) as ob = Q (.exit i) as ob := rfl
@[go_sem] theorem kS_r {b : Code} : kS L m n b Q .ret as ob = Q .ret as ob := rfl
theorem X_seq {a b : Code} (h : X L m n a as ob (kS L m n b Q)) : X L m n (.seq a b) as ob Q :=
  awp_seq (AWP.mono h fun e E ⟨as, ob, he, hq⟩ => by
    subst he
    cases e with
    | normal => exact hq
    | _ => exact ⟨as, ob, rfl, hq⟩)
theorem X_reg (O : Ok L) {i : Nat} {ops : Array Oper} (h : run L n ops.toList ops.toList as ob Q) : X L m n (.region i ops false) as ob Q := awp_region O (run_sound h)
theorem X_sr (O : Ok L) {i : Nat} {ops : Array Oper} {b : Code} (h : run L n ops.toList ops.toList as ob (kS L m n b Q)) : X L m n (.seq (.region i ops false) b) as ob Q := X_seq (X_reg O h)
theorem X_drawn (O : Ok L) {i : Nat} {ops : Array Oper} (pr : List (List Nat)) (eff : Nat → Bool) (hc : chkD ops pr eff = true) (h : runD L n ops.toList pr eff 0 ops.toList as ob [] [] Q) : X L m n (.region i ops true) as ob Q :=
  W_sound O (W_drawn O pr eff hc h)
theorem X_cond (_ : Ok L) {c : Operand} {a b : Code} (h : brC (evA n as c) (X L m n a as ob Q) (X L m n b as ob Q)) : X L m n (.cond c a b) as ob Q := by
  unfold brC at h
  split at h
  · rename_i x hx
    refine awp_cond (t := x) (by rw [evO_mkS]; exact hx) ?_
    cases x
    · exact h.2 rfl
    · exact h.1 rfl
  · exact h.elim
theorem X_condT (O : Ok L) {c : Operand} {a b : Code} (e : evA n as c = vbool true) (h : X L m n a as ob Q) : X L m n (.cond c a b) as ob Q := X_cond O (by rw [e]; simpa [brC] using h)
theorem X_condF (O : Ok L) {c : Operand} {a b : Code} (e : evA n as c = vbool false) (h : X L m n b as ob Q) : X L m n (.cond c a b) as ob Q := X_cond O (by rw [e]; simpa [brC] using h)
theorem X_skip (h : Q .normal as ob) : X L m n .skip as ob Q := awp_skip ⟨as, ob, rfl, h⟩
theorem X_exit {i : Nat} (h : Q (.exit i) as ob) : X L m n (.exit i) as ob Q := awp_exit ⟨as, ob, rfl, h⟩
theorem X_ret (h : Q .ret as ob) : X L m n .ret as ob Q := awp_ret ⟨as, ob, rfl, h⟩
theorem X_block {id : Nat} {c : Code} (h : X L m n c as ob (kBlk id Q)) : X L m n (.block id c) as ob Q :=
  awp_block (AWP.mono h fun e E ⟨as, ob, he, hq⟩ => by
    subst he
    cases e with
    | exit id' =>
      simp only [EBlock]
      simp only [kBlk] at hq
      split
      · rename_i hid; rw [if_pos hid] at hq; exact ⟨as, ob, rfl, hq⟩
      · rename_i hid; rw [if_neg hid] at hq; exact ⟨as, ob, rfl, hq⟩
    | _ => exact ⟨as, ob, rfl, hq⟩)

def kJ (L : Lg) (m n : Nat) (J : AS → OT → Prop) (Q : KC) : KC := fun e as ob => match e with | .normal => ∃ as' ob', To L m n as ob as' ob' ∧ J as' ob' | e => Q e as ob
@[congr] theorem kJ_congr {J : AS → OT → Prop} {e : Exit} (h1 : as = as') (h2 : ob = ob') : kJ L m n J Q e as ob = kJ L m n J Q e as' ob' := by rw [h1, h2]
@[go_sem] theorem kJ_e {J : AS → OT → Prop} {i : Nat} : kJ L m n J Q (.exit i) as ob = Q (.exit i) as ob := rfl
@[go_sem] theorem kJ_r {J : AS → OT → Prop} : kJ L m n J Q .ret as ob = Q .ret as ob := rfl
theorem kJ_in {J : AS → OT → Prop} (h : To L m n as ob as' ob') (k : J as' ob') : kJ L m n J Q .normal as ob := ⟨as', ob', h, k⟩
def kR (L : Lg) (m n : Nat) {S R : Type} (st : S → AS → OT → Prop) (o : LR S R) (Q : KC) : KC := fun e as ob => match e with
  | .normal => ∃ s, o = .next s ∧ ∃ as' ob', To L m n as ob as' ob' ∧ st s as' ob'
  | e => (∀ s, o ≠ .next s) ∧ Q e as ob
@[congr] theorem kR_congr {S R : Type} {st : S → AS → OT → Prop} {o : LR S R} {e : Exit} (h1 : as = as') (h2 : ob = ob') : kR L m n st o Q e as ob = kR L m n st o Q e as' ob' := by rw [h1, h2]
section
variable {S R : Type} {st : S → AS → OT → Prop} {o : LR S R}
@[go_sem] theorem kR_e {i : Nat} : kR L m n st o Q (.exit i) as ob = ((∀ s, o ≠ .next s) ∧ Q (.exit i) as ob) := rfl
@[go_sem] theorem kR_r : kR L m n st o Q .ret as ob = ((∀ s, o ≠ .next s) ∧ Q .ret as ob) := rfl
end
theorem kR_in {S R : Type} {st : S → AS → OT → Prop} {o : LR S R} {s : S} (e : o = .next s) (h : To L m n as ob as' ob') (k : st s as' ob') : kR L m n st o Q .normal as ob := ⟨s, e, as', ob', h, k⟩
def kE (Q : KC) : KC := fun e as ob => match e with | .normal => False | e => Q e as ob
@[congr] theorem kE_congr {e : Exit} (h1 : as = as') (h2 : ob = ob') : kE Q e as ob = kE Q e as' ob' := by rw [h1, h2]
@[go_sem] theorem kE_e {i : Nat} : kE Q (.exit i) as ob = Q (.exit i) as ob := rfl
@[go_sem] theorem kE_r : kE Q .ret as ob = Q .ret as ob := rfl

theorem X_while {S R : Type} {body : S → Option (LR S R)} {F : Nat} {s0 : S} {o : LR S R} {c : Code} (hb : whileF body F s0 = some o) (st : S → AS → OT → Prop) (h0 : ∃ as' ob', To L m n as ob as' ob' ∧ st s0 as' ob')
    (round : ∀ s o', body s = some o' → ((∀ s', o' ≠ .next s') → o = o') → ∀ as ob, st s as ob → X L m n c as ob (kR L m n st o' Q)) : X L m n (.loop c) as ob Q := by
  obtain ⟨as', ob', ht, h0⟩ := h0
  refine AWP.weak ht (awp_loop (fun k E => ∃ s as ob, E = ⟨mkS n as, ob⟩ ∧ st s as ob ∧ whileF body k s = some o) F ⟨s0, as', ob', rfl, h0, hb⟩ ?_)
  rintro k E ⟨s, as, ob, rfl, hs, hk⟩
  cases k with
  | zero => simp [whileF] at hk
  | succ k =>
    simp only [whileF] at hk
    cases hbs : body s with
    | none => simp [hbs] at hk
    | some o' =>
      have hr := round s o' hbs (fun hne => by
        rw [hbs] at hk
        cases o' with
        | next s' => exact absurd rfl (hne s')
        | brk s' => simpa [eq_comm] using hk
        | ret r => simpa [eq_comm] using hk) as ob hs
      refine AWP.mono hr fun e E' ⟨as1, ob1, he, hq⟩ => ?_
      subst he
      cases e with
      | normal =>
        obtain ⟨s', rfl, as2, ob2, h1, h2⟩ := hq
        rw [hbs] at hk
        exact ⟨k, ⟨mkS n as2, ob2⟩, Nat.lt_succ_self _, h1, s', as2, ob2, rfl, h2, hk⟩
      | _ => exact ⟨as1, ob1, rfl, hq.2⟩

theorem X_for {S R : Type} {body : Nat → S → Option (LR S R)} {N : Nat} {s0 : S} {o : LR S R} {c : Code} (hb : forF body N 0 s0 = some o) (st : Nat → S → AS → OT → Prop) (h0 : ∃ as' ob', To L m n as ob as' ob' ∧ st 0 s0 as' ob')
    (round : ∀ i s o', i < N → body i s = some o' → ((∀ s', o' ≠ .next s') → o = o') → ∀ as ob, st i s as ob → X L m n c as ob (kR L m n (st (i + 1)) o' Q))
    (fin : ∀ s, o = .next s → ∀ as ob, st N s as ob → X L m n c as ob (kE Q)) : X L m n (.loop c) as ob Q := by
  obtain ⟨as', ob', ht, h0⟩ := h0
  refine AWP.weak ht (awp_loop (fun k E => ∃ r i s as ob, k = r + 1 ∧ r + i = N ∧ E = ⟨mkS n as, ob⟩ ∧ st i s as ob ∧ forF body r i s = some o) (N + 1) ⟨N, 0, s0, as', ob', rfl, by omega, rfl, h0, hb⟩ ?_)
  rintro k E ⟨r, i, s, as, ob, rfl, hi, rfl, hs, hk⟩
  cases r with
  | zero =>
    simp only [forF, Option.some.injEq] at hk
    have hiN : i = N := by omega
    subst hiN
    refine AWP.mono (fin s hk.symm as ob hs) fun e E' ⟨as1, ob1, he, hq⟩ => ?_
    subst he
    cases e with
    | normal => exact hq.elim
    | _ => exact ⟨as1, ob1, rfl, hq⟩
  | succ r =>
    simp only [forF] at hk
    cases hbs : body i s with
    | none => simp [hbs] at hk
    | some o' =>
      have hr := round i s o' (by omega) hbs (fun hne => by
        rw [hbs] at hk
        cases o' with
        | next s' => exact absurd rfl (hne s')
        | brk s' => simpa [eq_comm] using hk
        | ret r => simpa [eq_comm] using hk) as ob hs
      refine AWP.mono hr fun e E' ⟨as1, ob1, he, hq⟩ => ?_
      subst he
      cases e with
      | normal =>
        obtain ⟨s', rfl, as2, ob2, h1, h2⟩ := hq
        rw [hbs] at hk
        exact ⟨r + 1, ⟨mkS n as2, ob2⟩, Nat.lt_succ_self _, h1, r, i + 1, s', as2, ob2, rfl, by omega, rfl, h2, hk⟩
      | _ => exact ⟨as1, ob1, rfl, hq.2⟩

theorem X_forN {S R : Type} {body : Nat → S → Option (LR S R)} {E : Int} {s0 : S} {o : LR S R} {c : Code} (hb : forN E body s0 = some o) (st : Nat → S → AS → OT → Prop) (h0 : ∃ as' ob', To L m n as ob as' ob' ∧ st 0 s0 as' ob')
    (round : ∀ (i : Nat) s o', (decide ((i : Int) < E) = true) → w64 ((i : Int) + 1) = ((i + 1 : Nat) : Int) → body i s = some o' → ((∀ s', o' ≠ .next s') → o = o') → ∀ as ob, st i s as ob → X L m n c as ob (kR L m n (st (i + 1)) o' Q))
    (fin : ∀ (i : Nat) s, (decide ((i : Int) < E) = false) → o = .next s → ∀ as ob, st i s as ob → X L m n c as ob (kE Q)) : X L m n (.loop c) as ob Q := by
  unfold forN at hb
  split at hb
  · rename_i hE
    exact X_for hb st h0 (fun i s o' hi hbs ho as ob hs => round i s o' (by simp; omega) (cntW (E := E) (by omega) hE) hbs ho as ob hs) (fun s ho as ob hs => fin _ s (by simp; omega) ho as ob hs)
  · cases hb
theorem AWP.wkp {c : Code} {E : E} {Q : Exit → Ab.E → Prop} (h : AWP L m c E (fun e E' => ∃ E'', Wk L m E' E'' ∧ Q e E'')) : AWP L m c E Q := fun X a w hm hr =>
  wp_mono (h X a w hm hr) fun _ a' w' ⟨_, ⟨E'', hw, hq⟩, hr'⟩ => ⟨E'', hq, hw X a' w' hm hr'⟩
theorem X_jq {c : Code} (J : AS → OT → Prop) (hb : ∀ as ob, J as ob → Q .normal as ob) (ha : X L m n c as ob (kJ L m n J Q)) : X L m n c as ob Q :=
  AWP.wkp (AWP.mono ha fun e E ⟨as, ob, he, hq⟩ => by
    subst he
    cases e with
    | normal =>
      obtain ⟨as', ob', h1, h2⟩ := hq
      exact ⟨_, h1, as', ob', rfl, hb as' ob' h2⟩
    | _ => exact ⟨_, Wk.refl _ _, as, ob, rfl, hq⟩)
theorem valid_X (O : Ok L) {f : FuncId} {fn : Func} {c : Code} {rs : List ResultVar} (hf : L.P.funcs[f]? = some fn) (hname : (fn.name == "runtime.NumGoroutine") = false) (hb : fn.body = some c) (hrs : fn.results.toList = rs) (hn : fn.ntmps = n)
    {args : List V} {ob : OT} {res : V} {ob' : OT} (hargs : Nat.ble args.length n = true) (hlen : ob.length ≤ ob'.length)
    (h : (∀ c ∈ args, Bd ob.length c) → TBd ob.length ob → X L ob.length n c (argS 0 args) ob (kFin L ob.length n rs res ob')) : Valid L f args ob res ob' := by
  refine valid_intro O hf hname hb hlen fun h1 h2 => ?_
  rw [hn, mkS_args (Nat.le_of_ble_eq_true hargs)]
  refine AWP.mono (h h1 h2) fun e E' ⟨as1, ob1, he, hq⟩ => ?_
  subst he
  cases e with
  | normal => obtain ⟨vs, a, b⟩ := hq; exact ⟨vs, by rw [hrs, retA_eq]; exact a, b⟩
  | ret => obtain ⟨vs, a, b⟩ := hq; exact ⟨vs, by rw [hrs, retA_eq]; exact a, b⟩
  | _ => exact hq.elim
@[congr] theorem kFin_congr {rs : List ResultVar} {res : V} {ob2 : OT} {e : Exit} (h1 : as = as') (h2 : ob = ob') : kFin L m n rs res ob2 e as ob = kFin L m n rs res ob2 e as' ob' := by rw [h1, h2]

theorem FB_upds {G : Gh} {ks : List (Nat × Option O)} (hk : ∀ p ∈ ks, p.2 = none) : ∀ {ob : OT} {b : Nat}, FB G (upds ob ks) b → FB G ob b := by
  induction ks with
  | nil => exact fun h => h
  | cons p r ih =>
    intro ob b h
    obtain ⟨i, x⟩ := p
    obtain rfl : x = none := hk (i, x) (by simp)
    obtain ⟨o, y, h1, h2⟩ := ih (fun p hp => hk p (by simp [hp])) (ob := ob.set i none) h
    refine ⟨o, y, ?_, h2⟩
    by_cases ho : o = i
    · subst ho
      unfold getO at h1
      by_cases hl : o < ob.length
      · simp [List.getElem?_set_self hl] at h1
      · rw [List.getElem?_eq_none (by simp; omega)] at h1; simp at h1
    · rwa [getO_set_ne (Ne.symm ho)] at h1
theorem callV_eq {g : FuncId} {fs cs args args' : List V} {ob1 ob2 : OT} {K : V → OT → Prop} {res : V} (h : Valid L g args' ob1 res ob2) (ha : fs ++ (args ++ cs) = args') (ho : ob = ob1) (k : K res ob2) : callV L (.fn g fs cs) args ob K := by
  subst ha ho; exact ⟨res, ob2, h, k⟩
end
end Go.Ab
end
section
/- Canonical states: objects move, values are seen alike. -/
namespace Go.Ab
open Go Go.Pp

section
variable {m B : Nat} {ρ : List (Nat × Nat)} {M : Mem} {G G' : Gh}

def abs (B : Nat) (ρ : List (Nat × Nat)) : List (Nat × Nat) := ρ.map fun p => (B + p.1, p.2)
theorem abs_get {t j ver : Nat} (h : ρ[t]? = some (j, ver)) : (abs B ρ)[t]? = some (B + j, ver) := by simp [abs, h]
theorem VM.rowA {j t ver off len : Nat} (h : ρ[t]? = some (j, ver)) : VM B (abs B ρ) (.row (B + j) ver off len) (.row (B + t) 0 off len) := VM.row (abs_get h)
theorem VM.refA {j t ver off i i' : Nat} (h : ρ[t]? = some (j, ver)) (hi : i = B + j := by first | rfl | simp) (hi' : i' = B + t := by first | rfl | simp) : VM B (abs B ρ) (.ref i off) (.ref i' off) := by subst hi hi'; exact VM.ref (abs_get h)
theorem VM.eqv {v v' : V} (h : v = v') (hb : Bd m v') : VM m ρ v v' := by subst h; exact VM.self hb
theorem VM.trans {v v1 v2 : V} (h : ∀ M G r, VR M G v r → VR M G v1 r) (k : VM m ρ v1 v2) : VM m ρ v v2 := fun M G r hr => k M G r (h M G r hr)
theorem VM.notFull (k : Nat) (f : Bool) (es : List (List Tr)) : VM m ρ (.tr (.sl k f es)) (.tr (.sl k false es)) := fun M G r h => by
  cases h with
  | tr h => cases h with
    | nil _ _ a c hc => exact .tr (.nil k false a c (fun h => by cases h))
    | sl _ _ _ b off c ff hc hle hk hm ht => exact .tr (.sl k false es b off c ff (fun h => by cases h) hle hk hm ht)
theorem VM.nil (k k' : Nat) (f : Bool) : VM m ρ (.tr (.sl k f [])) (.tr (.sl k' false [])) := fun M G r h => by
  cases h with
  | tr h => cases h with
    | nil _ _ a c hc => exact .tr (.nil k' false a c (fun h => by cases h))
    | sl _ _ _ b off c ff hc hle hk hm ht => exact .tr (.nil k' false _ c (fun h => by cases h))

theorem VR.subTr {k : Nat} {f f' : Bool} {es es' : List (List Tr)} {lo len : Nat} {r : Value} (h : VR M G (.sub k (.tr (.sl k f es)) lo len f') r) (he : (es.drop lo).take len = es') : VR M G' (.tr (.sl k false es')) r := by
  subst he
  cases h with
  | sub _ _ _ _ _ a a' n0 c0 mm h hlo hm hm2 hf ha =>
    cases h with
    | tr h => exact .tr (h.piece (fl := false) hlo hm hm2 ha (fun h => by cases h))
theorem VM.subTr {k : Nat} {f f' : Bool} {es es' : List (List Tr)} {lo len : Nat} (he : (es.drop lo).take len = es') : VM m ρ (.sub k (.tr (.sl k f es)) lo len f') (.tr (.sl k false es')) := fun _ _ _ h => h.subTr he
theorem VLe.subTr {n : Nat} {k : Nat} {f f' : Bool} {es es' : List (List Tr)} {lo len : Nat} (he : (es.drop lo).take len = es') : VLe n (.sub k (.tr (.sl k f es)) lo len f') (.tr (.sl k false es')) := fun _ _ _ h => h.subTr he
theorem VM.el {k : Nat} {v v' : V} {i off : Nat} (h : VM m ρ v v') : VM m ρ (.el k v i off) (.el k v' i off) := fun M G r hr => by
  cases hr with
  | el _ _ _ _ b o n c h0 hi => exact .el k v' i off b o n c (h M G _ h0) hi
theorem VM.fn {f : FuncId} {as as' bs bs' : List V} (ha : SlR (VM m ρ) as as') (hb : SlR (VM m ρ) bs bs') : VM m ρ (.fn f as bs) (.fn f as' bs') := fun M G r hr => by
  cases hr with
  | fn _ _ _ xs ys h1 h2 h3 h4 =>
    exact .fn f as' bs' xs ys (ha.length ▸ h1) (hb.length ▸ h2) (fun j c hj => by
      obtain ⟨v, hv, hR⟩ := ha.get hj
      exact hR M G _ (h3 j v hv)) (fun j c hj => by
      obtain ⟨v, hv, hR⟩ := hb.get hj
      exact hR M G _ (h4 j v hv))
theorem SlR.self {cs : List V} (h : ∀ c ∈ cs, Bd m c) : SlR (VM m ρ) cs cs := by
  induction cs with
  | nil => trivial
  | cons v r ih => exact ⟨VM.self (h v (by simp)), ih (fun c hc => h c (by simp [hc]))⟩

theorem OM.row' {ρ : List (Nat × Nat)} {k ver : Nat} {es es' : List (List Tr)} (h : es = es') : OM m ρ ver (.row k ver es) (.row k 0 es') := by subst h; exact .row k es

def objR (B : Nat) (ρ0 : List (Nat × Nat)) (l : OT) : List (Nat × Nat) → OT → Prop
  | [], [] => True
  | (j, ver) :: ρ, some x' :: l' => (∃ x, getO l j = some x ∧ OM B ρ0 ver x x') ∧ objR B ρ0 l ρ l'
  | _ :: ρ, none :: l' => objR B ρ0 l ρ l'
  | _, _ => False
theorem objR_len {ρ0 : List (Nat × Nat)} {l : OT} : ∀ {ρ : List (Nat × Nat)} {l' : OT}, objR B ρ0 l ρ l' → l'.length = ρ.length
  | [], [], _ => rfl
  | (_, _) :: _, some _ :: _, h => congrArg (· + 1) (objR_len h.2)
  | (_, _) :: _, none :: _, h => congrArg (· + 1) (objR_len (by simpa [objR] using h))
  | [], some _ :: _, h => by simp [objR] at h
  | [], none :: _, h => by simp [objR] at h
  | _ :: _, [], h => by simp [objR] at h
theorem objR_get {ρ0 : List (Nat × Nat)} {l : OT} : ∀ {ρ : List (Nat × Nat)} {l' : OT}, objR B ρ0 l ρ l' → ∀ {t j ver : Nat} {x' : O}, ρ[t]? = some (j, ver) → getO l' t = some x' → ∃ x, getO l j = some x ∧ OM B ρ0 ver x x'
  | [], [], _, t, j, ver, x', h, _ => by simp at h
  | (j0, v0) :: ρ, some y :: l', h, 0, j, ver, x', ht, hx => by
    simp only [List.getElem?_cons_zero, Option.some.injEq, Prod.mk.injEq] at ht
    obtain ⟨rfl, rfl⟩ := ht
    simp only [getO, List.getElem?_cons_zero, Option.getD_some, Option.some.injEq] at hx
    subst hx
    exact h.1
  | (j0, v0) :: ρ, some y :: l', h, t + 1, j, ver, x', ht, hx => objR_get h.2 (by simpa using ht) (by simpa [getO] using hx)
  | (j0, v0) :: ρ, none :: l', h, 0, j, ver, x', ht, hx => by simp [getO] at hx
  | (j0, v0) :: ρ, none :: l', h, t + 1, j, ver, x', ht, hx => objR_get (ρ := ρ) (l' := l') (by simpa [objR] using h) (by simpa using ht) (by simpa [getO] using hx)
  | [], some _ :: _, h, _, _, _, _, _, _ => by simp [objR] at h
  | [], none :: _, h, _, _, _, _, _, _ => by simp [objR] at h
  | _ :: _, [], h, _, _, _, _, _, _ => by simp [objR] at h

def BaseR (b b' : OT) : Prop := b'.length = b.length ∧ ∀ o x', getO b' o = some x' → ∃ x, getO b o = some x ∧ OLe b.length x x'
theorem BaseR.refl {b : OT} (h : TBd b.length b) : BaseR b b := ⟨rfl, fun o x' hx => ⟨x', hx, OLe.refl (h o x' hx)⟩⟩
theorem BaseR.set {b : OT} {o : Nat} {x x' : O} (h : TBd b.length b) (hx : OLe b.length x x') : BaseR (b.set o (some x)) (b.set o (some x')) := by
  refine ⟨by simp, fun o' y hy => ?_⟩
  by_cases ho : o' = o
  · subst ho
    have hl := getO_lt hy
    rw [List.length_set] at hl
    simp [getO, List.getElem?_set_self hl] at hy
    subst hy
    exact ⟨x, by simp [getO, List.getElem?_set_self hl], by simpa using hx⟩
  · rw [getO_set_ne (Ne.symm ho)] at hy ⊢
    exact ⟨y, hy, OLe.refl (by simpa using h o' y hy)⟩

theorem tm_of {b b' l l' : OT} (hb : BaseR b b') (ho : objR b.length (abs b.length ρ) l ρ l') (hn : (ρ.map (·.1)).Nodup) : TM b.length (abs b.length ρ) (b ++ l) (b' ++ l') := by
  have hlen := objR_len ho
  refine ⟨by simp [abs, hb.1, hlen], fun o x' h hx => ?_, fun t i ver ht => ?_, ?_⟩
  · rw [getO_low (by rw [hb.1]; exact h)] at hx
    rw [getO_low h]
    exact hb.2 o x' hx
  · simp only [abs, List.getElem?_map, Option.map_eq_some_iff] at ht
    obtain ⟨⟨j, v⟩, h1, h2⟩ := ht
    simp only [Prod.mk.injEq] at h2
    obtain ⟨rfl, rfl⟩ := h2
    refine ⟨by omega, fun x' hx => ?_⟩
    rw [← hb.1, getO_app] at hx
    rw [getO_app]
    exact objR_get ho h1 hx
  · simp only [abs, List.map_map]
    have : ((fun p : Nat × Nat => p.1) ∘ fun p : Nat × Nat => (b.length + p.1, p.2)) = (fun x => b.length + x) ∘ (fun p : Nat × Nat => p.1) := rfl
    rw [this, ← List.map_map]
    generalize ρ.map (·.1) = q at hn
    induction q with
    | nil => simp
    | cons a r ih =>
      simp only [List.map_cons, List.nodup_cons, List.mem_map, not_exists, not_and] at hn ⊢
      exact ⟨fun x hx he => by have : x = a := by omega
                               subst this; exact hn.1 hx, ih hn.2⟩
end
section
variable {L : Lg} {m n : Nat} {as as' : AS} {b b' l l' : OT} {ρ : List (Nat × Nat)}
theorem To.mv (ρ : List (Nat × Nat)) (hb : BaseR b b') (hm : m ≤ b.length) (hn : (ρ.map (·.1)).Nodup) (h : entR (VM b.length (abs b.length ρ)) as as') (ho : objR b.length (abs b.length ρ) l ρ l') : To L m n as (b ++ l) as' (b' ++ l') :=
  Wk.move hm (slR_mkS (VM.junk _) h) (tm_of hb ho hn)
theorem Rt.mv {v v' : V} (ρ : List (Nat × Nat)) (hb : BaseR b b') (hm : m = b.length) (hn : (ρ.map (·.1)).Nodup) (h : VM b.length (abs b.length ρ) v v') (ho : objR b.length (abs b.length ρ) l ρ l') : Rt m v (b ++ l) v' (b' ++ l') := by
  subst hm
  exact Rt.move h (tm_of hb ho hn)
theorem Rt.mv0 {v v' : V} (hb : BaseR b b') (hm : m = b.length) (h : VM b.length (abs b.length []) v v') : Rt m v (b ++ l) v' b' := by
  have := Rt.mv (l := l) (l' := []) [] hb hm (by simp) h (by simp [objR])
  simpa using this
theorem Rt.mv1 {v v' : V} (hb : BaseR b b') (hm : m = b.length) (h : VM b.length (abs b.length []) v v') : Rt m v b v' b' := by
  have := Rt.mv0 (l := []) hb hm h
  simpa using this
end

section
variable {L : Lg} {m n : Nat} {as as' : AS} {b b' l l' : OT} {ρ : List (Nat × Nat)} {B : Nat}
theorem To.mv0 (hb : BaseR b b') (hm : m ≤ b.length) (h : entR (VM b.length (abs b.length [])) as as') : To L m n as (b ++ l) as' b' := by
  have := To.mv (L := L) (m := m) (n := n) (l := l) (l' := []) [] hb hm (by simp) h (by simp [objR])
  simpa using this
theorem To.mv1 (hb : BaseR b b') (hm : m ≤ b.length) (h : entR (VM b.length (abs b.length [])) as as') : To L m n as b as' b' := by
  have := To.mv0 (L := L) (n := n) (l := []) hb hm h
  simpa using this
theorem VM.rowL {j t ver off len len' i i' : Nat} (h : ρ[t]? = some (j, ver)) (hl : len = len') (hi : i = B + j := by first | rfl | simp) (hi' : i' = B + t := by first | rfl | simp) : VM B (abs B ρ) (.row i ver off len) (.row i' 0 off len') := by subst hl hi hi'; exact VM.rowA h
end
theorem cast0 : ((0 : Nat) : Int) = 0 := rfl
theorem cast1 : ((1 : Nat) : Int) = 1 := rfl
theorem VG.nilL {nb k k' i : Nat} (hi : i = nb := by first | rfl | simp) : VG nb k (.tr (.sl k' true [])) (.row i 0 0 0) := by subst hi; exact VG.nil _ k k'
theorem drop_map {α β : Type} (f : α → β) (l : List α) (i : Nat) : (l.map f).drop i = (l.drop i).map f := by simp
theorem take_map {α β : Type} (f : α → β) (l : List α) (i : Nat) : (l.map f).take i = (l.take i).map f := by simp
attribute [go_sem] cast0 cast1 Int.cast_ofNat_Int Int.natCast_nonneg true_implies false_implies decide_true decide_false Nat.zero_le Nat.sub_zero Option.map_none minmax List.getElem?_toArray drop_map take_map entR objR List.getElem?_map Option.map_some ne_eq implies_true

theorem Bd.of_rdS {ob : OT} : ∀ {v : V} {p : Nat × List (List Tr)}, rdS (getO ob) v = some p → Bd ob.length v
  | .tr t, _, _ => .tr t
  | .row o ver off len, p, h => by
    simp only [rdS] at h
    cases ho : getO ob o with
    | none => simp [ho] at h
    | some x => exact .row o ver off len (getO_lt ho)
  | .sub k v lo n f, p, h => by
    simp only [rdS] at h
    cases hv : rdS (getO ob) v with
    | none => simp [hv] at h
    | some q => exact .sub k v lo n f (Bd.of_rdS hv)
  | .agg _, _, h => by simp [rdS] at h
  | .ref .., _, h => by simp [rdS] at h
  | .el .., _, h => by simp [rdS] at h
  | .glob .., _, h => by simp [rdS] at h
  | .fn .., _, h => by simp [rdS] at h
  | .tup _, _, h => by simp [rdS] at h
  | .junk, _, h => by simp [rdS] at h
theorem Bd.of_rdK {ob : OT} {v : V} {k : Nat} {es : List (List Tr)} (h : rdK (getO ob) k v = some es) : Bd ob.length v := by
  obtain ⟨k', hs⟩ := rdK_rdS h
  exact Bd.of_rdS hs

section
variable {L : Lg} {m n k : Nat} {as as' : AS} {b l l' : OT}
def obG (nb k : Nat) : OT → OT → Prop
  | [], [] => True
  | x :: l, y :: l' => (x = y ∨ ∃ a b, x = some a ∧ y = some b ∧ OR (VG nb k) a b) ∧ obG nb k l l'
  | _, _ => False
theorem obG_len {nb : Nat} : ∀ {l l' : OT}, obG nb k l l' → l'.length = l.length
  | [], [], _ => rfl
  | _ :: _, _ :: _, h => congrArg (· + 1) (obG_len h.2)
theorem obG_get {nb : Nat} : ∀ {l l' : OT}, obG nb k l l' → ∀ {i : Nat} {x' : O}, getO l' i = some x' → ∃ x, getO l i = some x ∧ OR (VG nb k) x x'
  | [], [], _, i, x', h => by simp [getO] at h
  | x :: l, y :: l', h, 0, x', hx => by
    simp only [getO, List.getElem?_cons_zero, Option.getD_some] at hx ⊢
    subst hx
    rcases h.1 with h1 | ⟨a, b, rfl, hb, h1⟩
    · exact ⟨x', by rw [h1], .same x'⟩
    · cases hb; exact ⟨a, rfl, h1⟩
  | x :: l, y :: l', h, i + 1, x', hx => by
    obtain ⟨z, h1, h2⟩ := obG_get h.2 (i := i) (by simpa [getO] using hx)
    exact ⟨z, by simpa [getO] using h1, h2⟩
theorem To.gh (k : Nat) (h : entR (VG (b ++ l).length k) as as') (ho : obG (b ++ l).length k l l') : To L m n as (b ++ l) as' (b ++ (l' ++ [some (.row k 0 [])])) := by
  have hl := obG_len ho
  refine To.ghost' (ob := b ++ l) k h ⟨by simp [hl]; omega, ?_, fun o x' hlt hx => ?_⟩
  · rw [← List.append_assoc, show (b ++ l).length = (b ++ l').length by simp [hl], ← Nat.add_zero (b ++ l').length, getO_app]
    rfl
  · by_cases hb : o < b.length
    · rw [getO_low hb] at hx ⊢
      exact ⟨x', hx, .same x'⟩
    · obtain ⟨i, rfl⟩ := Nat.exists_eq_add_of_le (Nat.le_of_not_lt hb)
      rw [getO_app] at hx ⊢
      have hi : i < l'.length := by simp at hlt; omega
      rw [getO_low hi] at hx
      exact obG_get ho hx
def FnV (L : Lg) (w : V) (args : List V) (ob : OT) (res : V) (ob' : OT) : Prop := match w with | .fn g fs cs => Valid L g (fs ++ (args ++ cs)) ob res ob' | _ => False
theorem callV_fn {w : V} {args args' : List V} {ob ob1 ob2 : OT} {res : V} {K : V → OT → Prop} (h : FnV L w args' ob1 res ob2) (ha : args = args') (ho : ob = ob1) (k : K res ob2) : callV L w args ob K := by
  subst ha ho
  unfold FnV at h
  unfold callV
  split at h
  · exact ⟨res, ob2, h, k⟩
  · exact h.elim
end

/- a table one of whose objects is known -/
section
variable {ob l : OT} {o i : Nat} {x y : Option O}
theorem length_setO : (ob.set o x).length = ob.length := by simp
theorem getO_self (h : o < ob.length) : getO (ob.set o x) o = x := by simp [getO, List.getElem?_set_self h]
theorem getO_appS : getO (ob.set o x ++ l) (ob.length + i) = getO l i := by have := getO_app (ob := ob.set o x) (l := l) (i := i); simpa using this
theorem getO_appS0 : getO (ob.set o x ++ l) ob.length = getO l 0 := getO_appS (i := 0)
theorem set_appS : (ob.set o x ++ l).set (ob.length + i) y = ob.set o x ++ l.set i y := by have := set_app (ob := ob.set o x) (l := l) (i := i) (y := y); simpa using this
theorem set_appS0 : (ob.set o x ++ l).set ob.length y = ob.set o x ++ l.set 0 y := set_appS (i := 0)
theorem set_own {x : O} (h : getO ob o = some x) : ob.set o (some x) = ob := by
  apply List.ext_getElem?
  intro j
  by_cases hj : o = j
  · subst hj
    have hl := getO_lt h
    rw [List.getElem?_set_self hl]
    simp only [getO] at h
    cases hx : ob[o]? with
    | none => simp [hx] at h
    | some z => simp [hx] at h; rw [h]
  · rw [List.getElem?_set_ne hj]
theorem TBd.set {x : O} {k : Nat} (h : TBd k ob) (hx : OBd k x) : TBd k (ob.set o (some x)) := fun o' y hy => by
  by_cases ho : o' = o
  · subst ho
    have hl := getO_lt hy
    rw [List.length_set] at hl
    simp [getO, List.getElem?_set_self hl] at hy
    subst hy; exact hx
  · rw [getO_set_ne (Ne.symm ho)] at hy
    exact h o' y hy
end
attribute [go_sem] length_setO getO_appS getO_appS0 set_appS set_appS0 List.set_set

theorem wrap64 (a : Int) : IntKind.i64.wrap a = w64 a := by unfold IntKind.wrap w64; simp [IntKind.signed, IntKind.bits]
theorem wrap32 (a : Int) : IntKind.i32.wrap a = w32 a := by unfold IntKind.wrap w32; simp [IntKind.signed, IntKind.bits]
theorem wrapU64 (a : Int) : IntKind.u64.wrap a = u64 a := by unfold IntKind.wrap u64; simp [IntKind.signed, IntKind.bits]
theorem wrapU32 (a : Int) : IntKind.u32.wrap a = u32 a := by unfold IntKind.wrap u32; simp [IntKind.signed, IntKind.bits]
theorem wrapU16 (a : Int) : IntKind.u16.wrap a = u16 a := by unfold IntKind.wrap u16; simp [IntKind.signed, IntKind.bits]
theorem wrapU8 (a : Int) : IntKind.u8.wrap a = u8 a := by unfold IntKind.wrap u8; simp [IntKind.signed, IntKind.bits]
theorem bits64 : IntKind.i64.bits = 64 := rfl
theorem bitsU64 : IntKind.u64.bits = 64 := rfl
theorem bitsU8 : IntKind.u8.bits = 8 := rfl
theorem bitsU32 : IntKind.u32.bits = 32 := rfl
theorem bitsU16 : IntKind.u16.bits = 16 := rfl
attribute [go_sem] wrap64 wrap32 wrapU64 wrapU32 wrapU16 wrapU8 bits64 bitsU64 bitsU8 bitsU32 bitsU16

def eI (k : IntKind) (n : Int) : List Tr := [.lit (.int k n)]
def eB (b : Bool) : List Tr := [.lit (.bool b)]
def eS (s : ByteArray) : List Tr := [.lit (.string s)]
attribute [go_sem] eI eB eS
end Go.Ab
end
