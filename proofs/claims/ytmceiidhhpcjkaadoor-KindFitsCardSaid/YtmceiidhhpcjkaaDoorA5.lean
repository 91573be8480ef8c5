/- A machine that carries out the translated code on data, and why it is right, part 5 -/
import Derived.Laws.Cells
import Derived.Laws.Slices
import Derived.Test.YtmceiidhhpcjkaaDoorA4
set_option linter.all false
section
/- Operations that only read are sound. -/
namespace Go.Ab
open Go

def eqVals : List Value → List Value → Option Bool
  | [], [] => some true
  | a :: r, b :: q =>
    match eqLit a b, eqVals r q with
    | some x, some y => some (x && y)
    | _, _ => none
  | _, _ => none
def EqTy (P : Program) (T : TypeId) : Prop := P.eqGuardType P.depth T = false ∧ ∀ (inf : TypeInfo) (z : Value), P.info? T = some inf → inf.zero = some z → ∀ (w : World) (xs ys : Array Value) (b : Bool), likeL z.cells.toList xs.toList = true → likeL z.cells.toList ys.toList = true → eqVals xs.toList ys.toList = some b → (Op.equal T (.agg xs) (.agg ys)).run P w = .ok b w

structure Agree (P : Program) (τ : TT) : Prop where
  ty : ∀ T i, τ T = some i → P.underlying T = some i.d ∧ ∃ inf, P.info? T = some inf ∧ inf.size = i.size ∧ inf.bytes = i.bytes ∧ inf.zero = some i.zero ∧ i.zero.cells.size = i.size
  one : ∀ T i, τ T = some i → ∀ c ∈ i.zero.cells, oneV c = true
  flds : ∀ T i fs, τ T = some i → i.d = .struct fs → ∀ f ∈ fs, ∃ fi, τ f.type = some fi
  eq : ∀ T i, τ T = some i → i.eq = true → EqTy P T

section
variable {P : Program} {τ : TT} (A : Agree P τ) {T : TypeId} {i : TI} (w : World)
include A
theorem run_und (h : τ T = some i) : (underlying T).run P w = .ok i.d w := by
  have := (A.ty T i h).1
  simp [underlying, this]
theorem run_size (h : τ T = some i) : (sizeOf T).run P w = .ok i.size w := by
  obtain ⟨_, inf, h1, h2, _⟩ := A.ty T i h
  simp [sizeOf, typeInfo, h1, h2]
theorem run_zero (h : τ T = some i) : (zeroValue T).run P w = .ok i.zero w := by
  obtain ⟨_, inf, h1, _, _, h4, _⟩ := A.ty T i h
  simp [zeroValue, typeInfo, h1, h4]
theorem zero_size (h : τ T = some i) : i.zero.cells.size = i.size := by
  obtain ⟨_, inf, h1, _, _, h4, h5⟩ := A.ty T i h
  exact h5
theorem run_isAgg (h : τ T = some i) : (isAgg T).run P w = .ok (aggD i.d) w := by
  have := run_und A w h
  simp only [isAgg, Sem.run_bind, this, Result.andThen_ok]
  cases i.d <;> rfl
end

def Glob (γ : GT) (M : Mem) : Prop := ∀ g vs, γ g = some vs → ∀ j v, vs[j]? = some v → M.cell g j = some v
theorem Glob.mono {γ : GT} {M M' : Mem} (h : Glob γ M) (hm : Mle M M') : Glob γ M' := fun g vs hg j v hv => hm.cell (h g vs hg j v hv)

section
variable {P : Program} {τ : TT} {γ : GT} {F : Nat → Prop} {n0 : Nat} {w : World} {M : Mem} {G : Gh} {ob : OT}

theorem add_none (b o j : Nat) : (⟨b, o, none⟩ : Addr).add j = ⟨b, o + j, none⟩ := by unfold Addr.add; split <;> simp_all

theorem cellsAt_sound (I : Inv F n0 w M G ob) (hγ : Glob γ M) {a : V} {r : Value} (ha : VR M G a r) {n : Nat} {cs : List V} (h : cellsAt γ (getO ob) n a = some cs) :
    ∃ b o, r = .pointer (some ⟨b, o, none⟩) ∧ cs.length = n ∧ ∀ j c, cs[j]? = some c → ∃ x, w.cell? ⟨b, o + j, none⟩ = some x ∧ VR M G c x := by
  cases ha with
  | ref o off b hg =>
    simp only [cellsAt] at h
    cases ho : getO ob o with
    | none => simp [ho] at h
    | some x =>
      cases x with
      | row => simp [ho] at h
      | iter => simp [ho] at h
      | mp => simp [ho] at h
      | mit => simp [ho] at h
      | box bs =>
        simp only [ho] at h
        split at h
        · rename_i hle
          simp only [Option.some.injEq] at h
          subst h
          cases I.obj o _ ho with
          | box _ b' arr T hg' hw hl hc =>
            rw [hg] at hg'
            cases hg'
            refine ⟨b, off, rfl, by simp; omega, fun j c hj => ?_⟩
            have hjn : j < n := by have := (List.getElem?_eq_some_iff.1 hj).1; simp at this; omega
            rw [List.getElem?_take_of_lt hjn, List.getElem?_drop] at hj
            have hlt := (List.getElem?_eq_some_iff.1 hj).1
            refine ⟨arr.getD (off + j) undef, ?_, hc _ _ hj⟩
            have : off + j < arr.size := by omega
            simp [World.cell?, hw, this]
        · simp at h
  | iter o off b hg =>
    simp only [cellsAt] at h
    cases ho : getO ob o with
    | none => simp [ho] at h
    | some x =>
      cases x with
      | row => simp [ho] at h
      | iter => simp [ho] at h
      | mp => simp [ho] at h
      | mit => simp [ho] at h
      | box bs =>
        cases I.obj o _ ho with
        | box _ b' arr T hg' hw hl hc => rw [hg] at hg'; cases hg'
  | el k v i off b o n' c hv hi =>
    simp only [cellsAt] at h
    cases hr : rdK (getO ob) k v with
    | none => simp [hr] at h
    | some es =>
      simp only [hr] at h
      cases he : es[i]? with
      | none => simp [he] at h
      | some e =>
        simp only [he] at h
        split at h
        · rename_i hle
          simp only [Option.some.injEq] at h
          subst h
          obtain ⟨a, c', heq, hle', _, hk, hrd⟩ := rdK_sound I hv hr
          simp only [Value.slice.injEq] at heq
          obtain ⟨rfl, _, _⟩ := heq
          obtain ⟨b', o', hbo, hcell⟩ := hrd (by intro h0; subst h0; simp at he)
          simp only [Option.some.injEq, Addr.mk.injEq] at hbo
          obtain ⟨rfl, rfl, _⟩ := hbo
          refine ⟨_, _, rfl, by simp; omega, fun j c hj => ?_⟩
          have hjn : j < n := by have := (List.getElem?_eq_some_iff.1 hj).1; simp at this; omega
          rw [List.getElem?_map, List.getElem?_take_of_lt hjn, List.getElem?_drop, Option.map_eq_some_iff] at hj
          obtain ⟨t, ht, rfl⟩ := hj
          obtain ⟨x, hx, hT⟩ := hcell i e (off + j) t he ht
          exact ⟨x, by rw [show o + i * k + off + j = o + i * k + (off + j) by omega]; exact hx, .tr hT⟩
        · simp at h
  | glob g off =>
    simp only [cellsAt] at h
    cases hg : γ g with
    | none => simp [hg] at h
    | some vs =>
      simp only [hg] at h
      split at h
      · rename_i hle
        simp only [Option.some.injEq] at h
        subst h
        refine ⟨g, off, rfl, by simp; omega, fun j c hj => ?_⟩
        have hjn : j < n := by have := (List.getElem?_eq_some_iff.1 hj).1; simp at this; omega
        rw [List.getElem?_map, List.getElem?_take_of_lt hjn, List.getElem?_drop, Option.map_eq_some_iff] at hj
        obtain ⟨t, ht, rfl⟩ := hj
        exact ⟨t, cell_of_mem I.mem (hγ g vs hg _ t ht), VR.constC M G t⟩
      · simp at h
  | tr => simp [cellsAt] at h
  | agg => simp [cellsAt] at h
  | row => simp [cellsAt] at h
  | sub => simp [cellsAt] at h
  | fn => simp [cellsAt] at h
  | tup => simp [cellsAt] at h
  | mp => simp [cellsAt] at h
  | junk => simp [cellsAt] at h

theorem load_sound {T : TypeId} (A : Agree P τ) (I : Inv F n0 w M G ob) (hγ : Glob γ M) {a : V} {r : Value} (ha : VR M G a r) {k : K3} (h : opLoad τ γ (getO ob) T a = some k) :
    ∃ v x, k = (v, [], none) ∧ (Instr.loadAt T r).run P w = .ok x w ∧ VR M G v x := by
  unfold opLoad at h
  cases hT : τ T with
  | none => simp [hT] at h
  | some i =>
    simp only [hT] at h
    cases hc : cellsAt γ (getO ob) i.size a with
    | none => simp [hc] at h
    | some cs =>
      simp only [hc] at h
      cases hm : mkV (aggD i.d) cs with
      | none => simp [hm] at h
      | some v =>
        simp only [hm, Option.some.injEq] at h
        subst h
        obtain ⟨b, o, rfl, hlen, hcell⟩ := cellsAt_sound I hγ ha hc
        refine ⟨v, ?_⟩
        unfold mkV at hm
        cases hag : aggD i.d with
        | true =>
          simp only [hag, if_true, Option.some.injEq] at hm
          subst hm
          have hex : ∀ j, ∃ x, j < i.size → w.cell? ⟨b, o + j, none⟩ = some x ∧ ∀ c, cs[j]? = some c → VR M G c x := by
            intro j
            by_cases hj : j < i.size
            · obtain ⟨x, h1, h2⟩ := hcell j cs[j] (by simp [hlen, hj])
              exact ⟨x, fun _ => ⟨h1, fun c hc => by have : c = cs[j] := by simpa [hlen, hj] using hc.symm
                                                     rw [this]; exact h2⟩⟩
            · exact ⟨undef, fun h => absurd h hj⟩
          have ⟨f, hf⟩ := Classical.axiomOfChoice hex
          have hl := run_loadCells (P := P) w ⟨b, o, none⟩ i.size f (fun j hj => by rw [add_none]; exact (hf j hj).1)
          refine ⟨.agg ((List.range i.size).map f).toArray, rfl, ?_, ?_⟩
          · simp [Instr.loadAt, Instr.sureAddr, loadVar, run_isAgg A w hT, run_size A w hT, hag, hl]
          · refine .agg _ _ (by simp [hlen]) fun j c hj => ?_
            have hjn : j < i.size := by have := (List.getElem?_eq_some_iff.1 hj).1; omega
            have := (hf j hjn).2 c hj
            simpa [hjn] using this
        | false =>
          simp only [hag] at hm
          match cs, hm with
          | [c], hm =>
            simp at hm
            subst hm
            obtain ⟨x, h1, h2⟩ := hcell 0 c rfl
            refine ⟨x, rfl, ?_, h2⟩
            have h1' : w.cell? ⟨b, o, none⟩ = some x := h1
            simp [Instr.loadAt, Instr.sureAddr, loadVar, run_isAgg A w hT, hag, h1']
end
end Go.Ab
end
section
/- Operations that make no memory and write none are sound. -/
namespace Go.Ab
open Go

section
variable {P : Program} {τ : TT} {γ : GT} {F : Nat → Prop} {n0 : Nat} {w : World} {M : Mem} {G : Gh} {ob : OT}

def OpV (P : Program) (w : World) (M : Mem) (G : Gh) (k : K3) (s : Sem Value) : Prop := ∃ v x, k = (v, [], none) ∧ s.run P w = .ok x w ∧ VR M G v x

theorem mkV_sound {T : TypeId} {i : TI} (A : Agree P τ) (hT : τ T = some i) {cs : List V} {vs : Array Value} {off : Nat} (hl : off + i.size ≤ cs.length) (hs : cs.length = vs.size)
    (h : ∀ j c, cs[j]? = some c → VR M G c (vs.getD j undef)) {v : V} (hm : mkV (aggD i.d) ((cs.drop off).take i.size) = some v) :
    ∃ x, (part T vs off).run P w = .ok x w ∧ VR M G v x := by
  unfold mkV at hm
  cases hag : aggD i.d with
  | true =>
    simp only [hag, if_true, Option.some.injEq] at hm
    subst hm
    refine ⟨.agg (vs.extract off (off + i.size)), by simp [part, run_isAgg A w hT, run_size A w hT, hag], .agg _ _ (by simp; omega) fun j c hj => ?_⟩
    have hjn : j < i.size := by have := (List.getElem?_eq_some_iff.1 hj).1; simp at this; omega
    rw [List.getElem?_take_of_lt hjn, List.getElem?_drop] at hj
    have h1 := h _ _ hj
    have h2 : off + j < vs.size := by omega
    have h3 : (vs.extract off (off + i.size)).getD j undef = vs.getD (off + j) undef := by
      rw [Array.getD_eq_getD_getElem?, Array.getD_eq_getD_getElem?, Array.getElem?_extract, if_pos (by omega)]
    rw [h3]; exact h1
  | false =>
    simp only [hag] at hm
    match hcs : (cs.drop off).take i.size, hm with
    | [c], hm =>
      simp at hm
      subst hm
      have h0 : ((cs.drop off).take i.size)[0]? = some c := by rw [hcs]; rfl
      have hp : 0 < i.size := by
        rcases Nat.eq_zero_or_pos i.size with h0' | h0'
        · rw [h0'] at h0; simp at h0
        · exact h0'
      rw [List.getElem?_take_of_lt hp, List.getElem?_drop] at h0
      have h1 := h _ _ h0
      have h2 : off < vs.size := by omega
      simp only [Nat.add_zero] at h1
      refine ⟨vs[off], by simp [part, run_isAgg A w hT, hag, h2], by simpa [h2] using h1⟩

theorem field_sound {T : TypeId} (A : Agree P τ) {x : V} {r : Value} (hx : VR M G x r) {f : Nat} {k : K3} (h : opField τ T x f = some k) : OpV P w M G k (Instr.field T r f) := by
  unfold opField at h
  split at h
  · rename_i i hT
    split at h
    · rename_i fs cs hd
      split at h
      · rename_i fl hf
        split at h
        · rename_i fi hfi
          split at h
          · rename_i hle
            split at h
            · rename_i v hm
              simp only [Option.some.injEq] at h
              subst h
              cases hx with
              | agg _ vs hl hc =>
                obtain ⟨x, h1, h2⟩ := mkV_sound (w := w) A hfi hle hl hc hm
                refine ⟨v, x, rfl, ?_, h2⟩
                simp [Instr.field, run_und A w hT, hd, hf, asAgg, h1]
            · simp at h
          · simp at h
        · simp at h
      · simp at h
    · simp at h
  · simp at h

theorem addOff_sound {d : Nat} {x v : V} {r : Value} (hx : VR M G x r) (h : addOff d x = some v) : ∃ b o, r = .pointer (some ⟨b, o, none⟩) ∧ VR M G v (.pointer (some ⟨b, o + d, none⟩)) := by
  cases hx with
  | ref o off b hg => simp [addOff] at h; subst h; exact ⟨b, off, rfl, .ref _ _ _ hg⟩
  | iter o off b hg => simp [addOff] at h; subst h; exact ⟨b, off, rfl, .iter _ _ _ hg⟩
  | el k v' i off b o n c hv hi => simp [addOff] at h; subst h; exact ⟨_, _, rfl, by rw [Nat.add_assoc]; exact .el k v' i (off + d) b o n c hv hi⟩
  | glob g off => simp [addOff] at h; subst h; exact ⟨_, _, rfl, .glob _ _⟩
  | tr => simp [addOff] at h
  | agg => simp [addOff] at h
  | row => simp [addOff] at h
  | sub => simp [addOff] at h
  | fn => simp [addOff] at h
  | tup => simp [addOff] at h
  | mp => simp [addOff] at h
  | junk => simp [addOff] at h

theorem fieldAddr_sound {T : TypeId} (A : Agree P τ) {x : V} {r : Value} (hx : VR M G x r) {f : Nat} {k : K3} (h : opFieldAddr τ T x f = some k) : OpV P w M G k (Instr.fieldAt T r f) := by
  unfold opFieldAddr at h
  split at h
  · rename_i i hT
    split at h
    · rename_i fs hd
      split at h
      · rename_i fl hf
        split at h
        · rename_i fi hfi
          split at h
          · simp at h
          · rename_i hne
            split at h
            · rename_i v hv
              simp only [Option.some.injEq] at h
              subst h
              obtain ⟨b, o, rfl, h2⟩ := addOff_sound hx hv
              refine ⟨v, _, rfl, ?_, h2⟩
              simp [Instr.fieldAt, run_und A w hT, hd, hf, Instr.sureAddr, fieldPlace, run_size A w hfi, hne, add_none]
            · simp at h
        · simp at h
      · simp at h
    · simp at h
  · simp at h
end
end Go.Ab
end
section
/- More operations that make no memory. -/
namespace Go.Ab
open Go

section
variable {P : Program} {τ : TT} {γ : GT} {F : Nat → Prop} {n0 : Nat} {w : World} {M : Mem} {G : Gh} {ob : OT}

theorem litInt_sound {v : V} {r : Value} (h : VR M G v r) {k : IntKind} {n : Int} (hl : litInt v = some (k, n)) : r = .int k n := by
  unfold litInt at hl
  split at hl
  · simp only [Option.some.injEq, Prod.mk.injEq] at hl
    obtain ⟨rfl, rfl⟩ := hl
    cases h with
    | tr ht => cases ht; rfl
  · simp at hl
theorem litStr_sound {v : V} {r : Value} (h : VR M G v r) {s : ByteArray} (hl : litStr v = some s) : r = .string s := by
  unfold litStr at hl
  split at hl
  · simp only [Option.some.injEq] at hl
    subst hl
    cases h with
    | tr ht => cases ht; rfl
  · simp at hl

theorem indexAddr_sound {T : TypeId} (A : Agree P τ) (I : Inv F n0 w M G ob) {x ix : V} {r ri : Value} (hx : VR M G x r) (hix : VR M G ix ri) {k : K3} (h : opIndexAddr τ (getO ob) T x ix = some k) :
    OpV P w M G k (Instr.indexAt T r ri) := by
  unfold opIndexAddr at h
  split at h
  · rename_i i kk n hT hn
    have := litInt_sound hix hn
    subst this
    split at h
    · rename_i e hd
      split at h
      · rename_i ei he
        split at h
        · rename_i es hr
          split at h
          case isFalse => simp at h
          rename_i hc
          simp only [Option.some.injEq] at h
          subst h
          obtain ⟨h0, h1⟩ := hc
          obtain ⟨a, c, rfl, hle, _, hk, hrd⟩ := rdK_sound I hx hr
          have hne : es ≠ [] := by intro h; subst h; simp at h1; omega
          obtain ⟨b, o, rfl, _⟩ := hrd hne
          have hlt : n.toNat < es.length := by omega
          refine ⟨_, .pointer (some ⟨b, o + n.toNat * ei.size + 0, none⟩), rfl, ?_, .el _ _ _ _ b o _ _ hx hlt⟩
          simp [Instr.indexAt, asIntOf, run_und A w hT, hd, h0, h1, run_size A w he, add_none]
        · simp at h
      · simp at h
    · rename_i m e hd
      split at h
      · rename_i ei he
        split at h
        · rename_i hc
          obtain ⟨h0, h1⟩ := hc
          split at h
          · rename_i v hv
            simp only [Option.some.injEq] at h
            subst h
            obtain ⟨b, o, rfl, h2⟩ := addOff_sound hx hv
            refine ⟨v, _, rfl, ?_, h2⟩
            simp [Instr.indexAt, asIntOf, run_und A w hT, hd, h0, h1, run_size A w he, add_none, Instr.sureAddr]
          · simp at h
        · simp at h
      · simp at h
    · simp at h
  · simp at h

theorem extract_sound {x : V} {r : Value} (hx : VR M G x r) {j : Nat} {k : K3} (h : opExtract x j = some k) : OpV P w M G k (Instr.extract r j) := by
  unfold opExtract at h
  split at h
  · rename_i vs
    split at h
    · rename_i v hj
      simp only [Option.some.injEq] at h
      subst h
      cases hx with
      | tup _ rs hl hc =>
        have hlt : j < rs.size := by have := (List.getElem?_eq_some_iff.1 hj).1; omega
        refine ⟨v, rs[j], rfl, by simp [Instr.extract, hlt], ?_⟩
        have := hc j v hj
        simpa [hlt] using this
    · simp at h
  · simp at h

theorem len_sound {T : TypeId} (A : Agree P τ) (I : Inv F n0 w M G ob) {x : V} {r : Value} (hx : VR M G x r) {k : K3} (h : opLen τ (getO ob) T x = some k) :
    OpV P w M G k (Builtin.len_ #[T] 0 #[r]) := by
  unfold opLen at h
  split at h
  · rename_i i hT
    split at h
    · rename_i hd
      split at h
      · rename_i s hs
        simp only [Option.some.injEq] at h
        subst h
        have := litStr_sound hx hs
        subst this
        exact ⟨_, goInt s.size, rfl, by simp [Builtin.len_, run_und A w hT, hd], .tr (.lit _ rfl)⟩
      · simp at h
    · rename_i e hd
      split at h
      · rename_i ei he
        split at h
        · rename_i es hr
          simp only [Option.some.injEq] at h
          subst h
          obtain ⟨a, c, rfl, hle, _, hk, hrd⟩ := rdK_sound I hx hr
          exact ⟨_, goInt es.length, rfl, by simp [Builtin.len_, run_und A w hT, hd], .tr (.lit _ rfl)⟩
        · simp at h
      · simp at h
    · rename_i n e hd
      simp only [Option.some.injEq] at h
      subst h
      exact ⟨_, goInt n, rfl, by simp [Builtin.len_, run_und A w hT, hd], .tr (.lit _ rfl)⟩
    · simp at h
  · simp at h

theorem pv_sound {s : Sem Value} {k : K3} (h : pv s = some k) : OpV P w M G k s := by
  unfold pv at h
  split at h
  · rename_i v
    split at h
    · rename_i h1
      simp only [Option.some.injEq] at h
      subst h
      exact ⟨_, v, rfl, rfl, .tr (.lit v h1)⟩
    · simp at h
  · simp at h

theorem nil_sound {x : V} {r : Value} (hx : VR M G x r) {k : K3} (h : nilOk x = some k) : ∃ v, k = (v, [], none) ∧ VR M G v r ∧ ((∃ a, r = .pointer (some a)) ∨ ∃ f xs ys, r = .func (.func f) xs ys) := by
  cases hx with
  | ref o off b hg => simp [nilOk] at h; subst h; exact ⟨_, rfl, .ref _ _ _ hg, .inl ⟨_, rfl⟩⟩
  | iter o off b hg => simp [nilOk] at h; subst h; exact ⟨_, rfl, .iter _ _ _ hg, .inl ⟨_, rfl⟩⟩
  | el k v' i off b o n c hv hi => simp [nilOk] at h; subst h; exact ⟨_, rfl, .el _ _ _ _ _ _ _ _ hv hi, .inl ⟨_, rfl⟩⟩
  | glob g off => simp [nilOk] at h; subst h; exact ⟨_, rfl, .glob _ _, .inl ⟨_, rfl⟩⟩
  | fn f as bs xs ys h1 h2 ha hb => simp [nilOk] at h; subst h; exact ⟨_, rfl, .fn _ _ _ _ _ h1 h2 ha hb, .inr ⟨_, _, _, rfl⟩⟩
  | tr => simp [nilOk] at h
  | agg => simp [nilOk] at h
  | row => simp [nilOk] at h
  | sub => simp [nilOk] at h
  | tup => simp [nilOk] at h
  | mp => simp [nilOk] at h
  | junk => simp [nilOk] at h

theorem bnd_sound {d : Nat} {x : Option V} {r : Option Value} (hx : match x, r with | some v, some y => VR M G v y | none, none => True | _, _ => False) {n : Nat} (h : bnd d x = some n) (y : Nat) (code : BoundsCode) (hn : n ≤ y) :
    (match r with | some v => Instr.sliceBound v y code | none => (pure d : Sem Nat)).run P w = .ok n w := by
  cases x with
  | none =>
    cases r with
    | none => simp [bnd] at h; subst h; rfl
    | some _ => exact hx.elim
  | some v =>
    cases r with
    | none => exact hx.elim
    | some q =>
      simp only [bnd] at h
      cases hl : litInt v with
      | none => simp [hl] at h
      | some p =>
        obtain ⟨kk, m⟩ := p
        simp only [hl] at h
        split at h
        · rename_i h0
          simp only [Option.some.injEq] at h
          subst h
          have := litInt_sound hx hl
          subst this
          have hy : m ≤ y := by omega
          simp [Instr.sliceBound, asIntOf, h0, hy]
        · simp at h

theorem slice_sound0 {T : TypeId} (A : Agree P τ) (I : Inv F n0 w M G ob) {x : V} {r : Value} (hx : VR M G x r) {lo hi mx : Option V} {rl rh rm : Option Value}
    (hlo : match lo, rl with | some v, some y => VR M G v y | none, none => True | _, _ => False)
    (hhi : match hi, rh with | some v, some y => VR M G v y | none, none => True | _, _ => False)
    (hmx : match mx, rm with | some v, some y => VR M G v y | none, none => True | _, _ => False) {k : K3} (h : opSlice0 τ (getO ob) T x lo hi mx = some k) :
    OpV P w M G k (Instr.sliceAt T r rl rh rm) := by
  unfold opSlice0 at h
  split at h
  · rename_i i hT
    split at h
    · rename_i hd
      split at h
      · rename_i s hs
        cases rm with
        | some _ => exact hmx.elim
        | none =>
          split at h
          · rename_i l hh hl hhh
            split at h
            · rename_i hc
              simp only [Option.some.injEq] at h
              subst h
              have := litStr_sound hx hs
              subst this
              have e1 := bnd_sound (P := P) (w := w) hhi hhh s.size .sliceAlen hc.2
              have e2 := bnd_sound (P := P) (w := w) hlo hl hh .sliceB hc.1
              refine ⟨_, .string (s.extract l hh), rfl, ?_, .tr (.lit _ rfl)⟩
              simp only [Instr.sliceAt, Sem.run_bind, run_und A w hT, Result.andThen_ok, hd, Instr.slice, Instr.sliceBounds]
              cases rh with
              | none => simp only [Option.isSome_none, Bool.false_eq_true, if_false, Sem.run_bind, Sem.run_pure, Result.andThen_ok] at e1 e2 ⊢
                        cases e1
                        cases rl with
                        | none => simp at e2; subst e2; simp
                        | some ll => simp only [] at e2 ⊢; simp [e2]
              | some hv => simp only [Option.isSome_none, Bool.false_eq_true, if_false, Sem.run_bind, Sem.run_pure, Result.andThen_ok] at e1 e2 ⊢
                           rw [e1]
                           cases rl with
                           | none => simp at e2; subst e2; simp
                           | some ll => simp only [Result.andThen_ok] at e2 ⊢; simp [e2]
            · simp at h
          · simp at h
      · simp at h
    · rename_i e hd
      split at h
      · rename_i ei he
        split at h
        · rename_i es hr
          split at h
          · rename_i l hh hl hhh
            split at h
            · rename_i hc
              obtain ⟨a, c, rfl, hle, _, hk, hrd⟩ := rdK_sound I hx hr
              split at h
              · cases rm with
                | some _ => exact hmx.elim
                | none =>
                  simp only [Option.some.injEq] at h
                  subst h
                  have e1 := bnd_sound (P := P) (w := w) hhi hhh c .sliceAcap (by omega)
                  have e2 := bnd_sound (P := P) (w := w) hlo hl hh .sliceB hc.1
                  refine ⟨_, .slice (if c = l then a else a.map (·.add (l * ei.size))) (hh - l) (c - l), rfl, ?_, .sub _ _ _ _ _ a _ es.length c c hx (by omega) (by omega) (Nat.le_refl _) (fun hf => by simp at hf) (fun hne => if_neg hne)⟩
                  simp only [Instr.sliceAt, Sem.run_bind, run_und A w hT, Result.andThen_ok, hd, Instr.slice, Instr.sliceBounds]
                  cases rh with
                  | none => simp only [Sem.run_bind, Sem.run_pure, Result.andThen_ok] at e1 e2 ⊢
                            cases e1
                            cases rl with
                            | none => simp at e2; subst e2; simp [run_size A w he]
                            | some ll => simp only [] at e2 ⊢; simp [e2, run_size A w he]
                  | some hv => simp only [Sem.run_bind, Sem.run_pure, Result.andThen_ok] at e1 e2 ⊢
                               simp only [if_true]
                               rw [e1]
                               cases rl with
                               | none => simp at e2; subst e2; simp [run_size A w he]
                               | some ll => simp only [Result.andThen_ok] at e2 ⊢; simp [e2, run_size A w he]
              · rename_i m0
                cases rm with
                | none => exact hmx.elim
                | some rmv =>
                  split at h
                  · rename_i m hv0 hm
                    cases rh with
                    | none => exact hhi.elim
                    | some hv =>
                      split at h
                      · rename_i hmh
                        subst hmh
                        simp only [Option.some.injEq] at h
                        subst h
                        have e0 := bnd_sound (P := P) (w := w) (d := 0) (x := some m0) (r := some rmv) hmx hm c .slice3Acap (by omega)
                        have e1 := bnd_sound (P := P) (w := w) (d := es.length) (x := some hv0) (r := some hv) hhi hhh m .slice3B (Nat.le_refl _)
                        have e2 := bnd_sound (P := P) (w := w) hlo hl m .slice3C hc.1
                        refine ⟨_, .slice (if m = l then a else a.map (·.add (l * ei.size))) (m - l) (m - l), rfl, ?_, .sub _ _ _ _ _ a _ es.length c m hx (by omega) (by omega) (by omega) (fun _ => by omega) (fun hne => if_neg hne)⟩
                        simp only [Instr.sliceAt, Sem.run_bind, run_und A w hT, Result.andThen_ok, hd, Instr.slice, Instr.sliceBounds]
                        simp only [] at e0 e1
                        simp only [if_true, e0, e1, Result.andThen_ok]
                        cases rl with
                        | none => simp at e2; subst e2; simp [run_size A w he]
                        | some ll => simp only [] at e2 ⊢; simp [e2, run_size A w he]
                      · simp at h
                  · simp at h
            · simp at h
          · simp at h
        · simp at h
      · simp at h
    · simp at h
  · simp at h
theorem TR.piece {k : Nat} {f : Bool} {es : List (List Tr)} {a a' : Option Addr} {n0 c0 lo len mm : Nat} (h : TR M (.sl k f es) (.slice a n0 c0)) (hlo : lo + len ≤ n0) (hm : lo + len ≤ mm) (hm2 : mm ≤ c0) (ha : mm ≠ lo → a' = a.map (·.add (lo * k))) {fl : Bool} (hfl : fl = true → mm = lo + len) :
    TR M (.sl k fl ((es.drop lo).take len)) (.slice a' len (mm - lo)) := by
  generalize hx : Value.slice a n0 c0 = x at h
  cases h with
  | nil _ _ a1 c1 hc =>
    simp only [Value.slice.injEq] at hx
    obtain ⟨rfl, rfl, rfl⟩ := hx
    obtain rfl : len = 0 := by omega
    simp
    exact .nil k fl a' _ (fun h => by have := hfl h; omega)
  | sl _ _ _ b off c ff hc hle hk hmm ht =>
    simp only [Value.slice.injEq] at hx
    obtain ⟨rfl, rfl, rfl⟩ := hx
    by_cases h0 : len = 0
    · subst h0
      simp
      exact .nil k fl a' _ (fun h => by have := hfl h; omega)
    · have e : ((es.drop lo).take len).length = len := by simp; omega
      have ha' := ha (by omega)
      have : a' = some ⟨b, off + lo * k, none⟩ := by
        rw [ha']
        by_cases hz : lo * k = 0 <;> simp [Addr.add, hz]
      subst this
      have := TR.sl (M := M) k fl ((es.drop lo).take len) b (off + lo * k) (mm - lo) (fun i j => ff (lo + i) j) (fun h => by have := hfl h; omega) (by omega) (fun x hx => hk x (List.mem_of_mem_drop (List.mem_of_mem_take hx)))
        (fun i x j t hi hj => by
          have hi' : es[lo + i]? = some x := by
            rw [List.getElem?_take] at hi
            split at hi
            · simpa using hi
            · cases hi
          have := hmm (lo + i) x j t hi' hj
          rwa [Nat.add_mul, ← Nat.add_assoc] at this)
        (fun i x j t hi hj => by
          have hi' : es[lo + i]? = some x := by
            rw [List.getElem?_take] at hi
            split at hi
            · simpa using hi
            · cases hi
          exact ht (lo + i) x j t hi' hj)
      rwa [e] at this
theorem normS_sound {v : V} {r : Value} (h : VR M G v r) : VR M G (normS v) r := by
  unfold normS
  split
  · rename_i k k' f es lo n fl
    split
    · rename_i hc
      obtain ⟨rfl, hc⟩ := hc
      cases h with
      | sub _ _ _ _ _ a a' n0 c0 mm h hlo hm hm2 hf ha =>
        cases h with
        | tr h => exact .tr (h.piece hlo hm hm2 ha hf)
    · exact h
  · exact h
theorem slice_sound {T : TypeId} (A : Agree P τ) (I : Inv F n0 w M G ob) {x : V} {r : Value} (hx : VR M G x r) {lo hi mx : Option V} {rl rh rm : Option Value}
    (hlo : match lo, rl with | some v, some y => VR M G v y | none, none => True | _, _ => False)
    (hhi : match hi, rh with | some v, some y => VR M G v y | none, none => True | _, _ => False)
    (hmx : match mx, rm with | some v, some y => VR M G v y | none, none => True | _, _ => False) {k : K3} (h : opSlice τ (getO ob) T x lo hi mx = some k) :
    OpV P w M G k (Instr.sliceAt T r rl rh rm) := by
  unfold opSlice at h
  split at h
  · rename_i v u o h0
    simp only [Option.some.injEq] at h
    subst h
    obtain ⟨v', y, e, h1, h2⟩ := slice_sound0 A I hx hlo hhi hmx h0
    simp only [Prod.mk.injEq] at e
    obtain ⟨rfl, rfl, rfl⟩ := e
    exact ⟨_, y, rfl, h1, normS_sound h2⟩
  · simp at h
end
end Go.Ab
end
section
/- Arithmetic, comparisons, parts of values. -/
namespace Go.Ab
open Go

section
variable {P : Program} {τ : TT} {γ : GT} {F : Nat → Prop} {n0 : Nat} {w : World} {M : Mem} {G : Gh} {ob : OT}

theorem index_sound {T : TypeId} (A : Agree P τ) {x ix : V} {r ri : Value} (hx : VR M G x r) (hix : VR M G ix ri) {k : K3} (h : opIndex τ T x ix = some k) :
    OpV P w M G k (Instr.index T r ri) := by
  unfold opIndex at h
  split at h
  · rename_i i kk n hT hn
    have := litInt_sound hix hn
    subst this
    split at h
    · rename_i hd
      split at h
      · rename_i s hs
        have := litStr_sound hx hs
        subst this
        split at h
        · rename_i h0
          split at h
          · rename_i b hb
            simp only [Option.some.injEq] at h
            subst h
            exact ⟨_, .int .u8 b.toNat, rfl, by simp [Instr.index, asIntOf, run_und A w hT, hd, h0, hb], .tr (.lit _ rfl)⟩
          · simp at h
        · simp at h
      · simp at h
    · rename_i m e hd
      split at h
      · rename_i ei cs he
        split at h
        · rename_i hc
          obtain ⟨h0, h1, h2⟩ := hc
          split at h
          · rename_i v hm
            simp only [Option.some.injEq] at h
            subst h
            cases hx with
            | agg _ vs hl hcc =>
              have hle : n.toNat * ei.size + ei.size ≤ cs.length := by rw [Nat.add_mul, Nat.one_mul] at h2; exact h2
              obtain ⟨x, h3, h4⟩ := mkV_sound (w := w) A he hle hl hcc hm
              exact ⟨v, x, rfl, by simp [Instr.index, asIntOf, run_und A w hT, hd, h0, h1, run_size A w he, h3], h4⟩
          · simp at h
        · simp at h
      · simp at h
    · simp at h
  · simp at h

theorem eqCells_vals {cs ds : List V} : ∀ {b : Bool} {xs ys : List Value}, eqCells cs ds = some b → cs.length = xs.length → ds.length = ys.length →
    (∀ j c, cs[j]? = some c → VR M G c (xs.getD j undef)) → (∀ j c, ds[j]? = some c → VR M G c (ys.getD j undef)) → eqVals xs ys = some b := by
  induction cs generalizing ds with
  | nil =>
    intro b xs ys h h1 h2 _ _
    cases ds with
    | nil =>
      simp [eqCells] at h
      subst h
      have hx : xs = [] := List.length_eq_zero_iff.1 h1.symm
      have hy : ys = [] := List.length_eq_zero_iff.1 h2.symm
      subst hx; subst hy; rfl
    | cons => simp [eqCells] at h
  | cons c r ih =>
    intro b xs ys h h1 h2 hx hy
    cases ds with
    | nil => cases c <;> simp [eqCells] at h
    | cons d q =>
      cases xs with
      | nil => simp at h1
      | cons x xs =>
        cases ys with
        | nil => simp at h2
        | cons y ys =>
          have hx0 := hx 0 c rfl
          have hy0 := hy 0 d rfl
          simp only [List.getD_cons_zero] at hx0 hy0
          unfold eqCells at h
          split at h
          · cases ‹c :: r = []›
          · rename_i a r' b' q' hcr hdq
            cases hcr
            cases hdq
            split at h
            · rename_i u v hu hv
              simp only [Option.some.injEq] at h
              subst h
              have hxa : x = a := by cases hx0 with | tr ht => cases ht; rfl
              have hyb : y = b' := by cases hy0 with | tr ht => cases ht; rfl
              subst hxa; subst hyb
              have := ih hv (by simpa using h1) (by simpa using h2) (fun j c hc => by simpa using hx (j + 1) c hc) (fun j c hc => by simpa using hy (j + 1) c hc)
              simp [eqVals, hu, this]
            · simp at h
          · simp at h

theorem likeV_sound : ∀ {zs : List Value} {cs : List V} {xs : List Value}, cs.length = xs.length → (∀ j c, cs[j]? = some c → VR M G c (xs.getD j undef)) → likeV zs cs = true → likeL zs xs = true
  | [], [], [], _, _, _ => rfl
  | z :: r, c :: q, x :: xs, hl, hc, h => by
    have h0 := hc 0 c rfl
    simp only [List.getD_cons_zero] at h0
    unfold likeV at h
    split at h
    · rename_i e _; cases e
    · rename_i z' r' v q' e1 e2
      cases e1
      cases e2
      have hx : x = v := by cases h0 with | tr ht => cases ht; rfl
      subst hx
      simp only [Bool.and_eq_true] at h
      simp only [likeL, Bool.and_eq_true]
      exact ⟨h.1, likeV_sound (by simpa using hl) (fun j c hj => by simpa using hc (j + 1) c hj) h.2⟩
    · cases h
  | [], _ :: _, _, _, _, h => by simp [likeV] at h
  | _ :: _, [], _, _, _, h => by simp [likeV] at h
  | _, [], _ :: _, hl, _, _ => by simp at hl
  | _, _ :: _, [], hl, _, _ => by simp at hl

theorem eq_bool {T : TypeId} {i : TI} (A : Agree P τ) (hT : τ T = some i) (hd : i.d = .bool) (a b : Bool) : (Op.equal T (.bool a) (.bool b)).run P w = .ok (a == b) w := by
  have h : ∀ d : Nat, (Op.equalIn (d + 1) T (.bool a) (.bool b)).run P w = .ok (a == b) w := fun d => by
    simp [Op.equalIn, run_und A w hT, hd]
  exact h 9999

theorem bin_sound {T : TypeId} (A : Agree P τ) {op : BinOp} {x y : V} {r q : Value} (hx : VR M G x r) (hy : VR M G y q) (ox oy : Operand) {k : K3} (h : opBin τ op T x y = some k) :
    OpV P w M G k (do eqGuard op T ox oy r q; binOp op T r q) := by
  unfold opBin at h
  split at h
  · rename_i kk a k' b
    have hr : r = .int kk a := by cases hx with | tr ht => cases ht; rfl
    have hq : q = .int k' b := by cases hy with | tr ht => cases ht; rfl
    subst hr; subst hq
    obtain ⟨v, z, h1, h2, h3⟩ := pv_sound (P := P) (w := w) (M := M) (G := G) h
    refine ⟨v, z, h1, ?_, h3⟩
    have : (eqGuard op T ox oy (.int kk a) (.int k' b)).run P w = .ok () w := by unfold eqGuard; cases op <;> simp
    rw [Sem.run_bind, this]
    exact h2
  · rename_i a b
    have hr : r = .string a := by cases hx with | tr ht => cases ht; rfl
    have hq : q = .string b := by cases hy with | tr ht => cases ht; rfl
    subst hr; subst hq
    obtain ⟨v, z, h1, h2, h3⟩ := pv_sound (P := P) (w := w) (M := M) (G := G) h
    refine ⟨v, z, h1, ?_, h3⟩
    have : (eqGuard op T ox oy (.string a) (.string b)).run P w = .ok () w := by unfold eqGuard; cases op <;> simp
    rw [Sem.run_bind, this]
    exact h2
  · rename_i a b
    have hr : r = .bool a := by cases hx with | tr ht => cases ht; rfl
    have hq : q = .bool b := by cases hy with | tr ht => cases ht; rfl
    subst hr; subst hq
    split at h
    · rename_i i hT
      have hg : (eqGuard op T ox oy (.bool a) (.bool b)).run P w = .ok () w := by unfold eqGuard; cases op <;> simp
      split at h
      · rename_i hd
        simp only [Option.some.injEq] at h
        subst h
        refine ⟨_, .bool (a == b), rfl, ?_, .tr (.lit _ rfl)⟩
        rw [Sem.run_bind, hg]
        simp [binOp, eq_bool A hT hd]
      · rename_i hd
        simp only [Option.some.injEq] at h
        subst h
        refine ⟨_, .bool (!(a == b)), rfl, ?_, .tr (.lit _ rfl)⟩
        rw [Sem.run_bind, hg]
        simp [binOp, eq_bool A hT hd]
      · simp at h
    · simp at h
  · rename_i cs ds
    split at h
    · rename_i i hT
      split at h
      · rename_i hi
        obtain ⟨hi, hn1, hn2⟩ := hi
        obtain ⟨hgt, heq⟩ := A.eq T i hT hi
        obtain ⟨_, inf, hinf, _, _, hz, _⟩ := A.ty T i hT
        cases hx with
        | agg _ xs hl hc =>
          cases hy with
          | agg _ ys hl' hc' =>
            have hg : ∀ op, (eqGuard op T ox oy (.agg xs) (.agg ys)).run P w = .ok () w := by intro op; unfold eqGuard; cases op <;> simp [hgt]
            split at h
            · rename_i b hb
              simp only [Option.some.injEq] at h
              subst h
              have hv := eqCells_vals (M := M) (G := G) (xs := xs.toList) (ys := ys.toList) hb (by simpa using hl) (by simpa using hl') (by simpa using hc) (by simpa using hc')
              refine ⟨_, .bool b, rfl, ?_, .tr (.lit _ rfl)⟩
              rw [Sem.run_bind, hg]
              simp [binOp, heq inf _ hinf hz w xs ys b (likeV_sound (by simpa using hl) (by simpa using hc) hn1) (likeV_sound (by simpa using hl') (by simpa using hc') hn2) hv]
            · rename_i b hb
              simp only [Option.some.injEq] at h
              subst h
              have hv := eqCells_vals (M := M) (G := G) (xs := xs.toList) (ys := ys.toList) hb (by simpa using hl) (by simpa using hl') (by simpa using hc) (by simpa using hc')
              refine ⟨_, .bool (!b), rfl, ?_, .tr (.lit _ rfl)⟩
              rw [Sem.run_bind, hg]
              simp [binOp, heq inf _ hinf hz w xs ys b (likeV_sound (by simpa using hl) (by simpa using hc) hn1) (likeV_sound (by simpa using hl') (by simpa using hc') hn2) hv]
            · simp at h
      · simp at h
    · simp at h
  · simp at h

theorem un_sound {op : UnOp} {x : V} {r : Value} (hx : VR M G x r) {k : K3} (h : opUn op x = some k) : OpV P w M G k (Op.unary op r) := by
  unfold opUn at h
  split at h
  · rename_i v
    have : r = v := by cases hx with | tr ht => cases ht; rfl
    subst this
    exact pv_sound h
  · simp at h

theorem minmax_sound {mx : Bool} {k : IntKind} : ∀ {rest : List V} {a : Int} {rs : List Value} {k3 : K3}, rest.length = rs.length → (∀ j c, rest[j]? = some c → VR M G c (rs.getD j undef)) → minmax mx k a rest = some k3 →
    OpV P w M G k3 (rs.foldlM (if mx then Builtin.max2 else Builtin.min2) (.int k a)) := by
  intro rest
  induction rest with
  | nil =>
    intro a rs k3 hl _ h
    have : rs = [] := List.length_eq_zero_iff.1 hl.symm
    subst this
    simp only [minmax, Option.some.injEq] at h
    subst h
    exact ⟨_, .int k a, rfl, rfl, .tr (.lit _ rfl)⟩
  | cons v r ih =>
    intro a rs k3 hl hc h
    cases rs with
    | nil => simp at hl
    | cons q rs =>
      have h0 := hc 0 v rfl
      simp only [List.getD_cons_zero] at h0
      simp only [minmax] at h
      cases hli : litInt v with
      | none => simp [hli] at h
      | some p =>
        obtain ⟨k', b⟩ := p
        simp only [hli] at h
        split at h
        · rename_i hk
          subst hk
          have := litInt_sound h0 hli
          subst this
          obtain ⟨v3, x3, h1, h2, h3⟩ := ih (rs := rs) (by simpa using hl) (fun j c hj => by simpa using hc (j + 1) c hj) h
          refine ⟨v3, x3, h1, ?_, h3⟩
          rw [List.foldlM_cons, Sem.run_bind]
          cases mx with
          | true => simp only [if_true, Builtin.max2, Sem.run_pure, Result.andThen_ok] at h2 ⊢; exact h2
          | false => simp only [Bool.false_eq_true, if_false, Builtin.min2, Sem.run_pure, Result.andThen_ok] at h2 ⊢; exact h2
        · simp at h
end
end Go.Ab
end
section
/- What keeps the relation when memory is made or written. -/
namespace Go.Ab
open Go

section
variable {P : Program} {τ : TT} {γ : GT} {F : Nat → Prop} {n0 : Nat} {w : World} {M : Mem} {G : Gh} {ob : OT}

theorem getO_set_self {ob : OT} {o : Nat} {x : Option O} (h : o < ob.length) : getO (ob.set o x) o = x := by simp [getO, h]
theorem getO_set_ne {ob : OT} {o o' : Nat} {x : Option O} (h : o ≠ o') : getO (ob.set o x) o' = getO ob o' := by simp [getO, List.getElem?_set_ne h]
theorem getO_lt {ob : OT} {o : Nat} {x : O} (h : getO ob o = some x) : o < ob.length := by
  rcases Nat.lt_or_ge o ob.length with h' | h'
  · exact h'
  · simp [getO, List.getElem?_eq_none h'] at h

theorem ObR.mono {w w' : World} {M M' : Mem} {G G' : Gh} {o : Nat} {x : O} (h : ObR w M G o x) (hM : Mle M M') (hG : Gle G G') (hGo : G' o = G o)
    (hw : ∀ b, blkO G o x = some b → w'.heap[b]? = w.heap[b]?) : ObR w' M' G' o x := by
  cases h with
  | box cs b arr T hg hw' hl h => exact .box cs b arr T (by rw [hGo]; exact hg) (by rw [hw b (by simp [blkO, hg])]; exact hw') hl (fun j c hc => (h j c hc).mono hM hG)
  | row k ver es f ri b st arr T hg hv hmax hk hb hw' hcap hlen he h =>
    exact .row k ver es f ri b st arr T (by rw [hGo]; exact hg) hv hmax hk hb (by rw [hw b (by simp [blkO, hg, hv, hb])]; exact hw') hcap hlen he (fun i e j t hi hj => (h i e j t hi hj).mono hM)
  | nil k ver f ri hg hv hmax hk hb hcap => exact .nil k ver f ri (by rw [hGo]; exact hg) hv hmax hk hb hcap
  | iter s pos b hg hw' => exact .iter s pos b (by rw [hGo]; exact hg) (by rw [hw b (by simp [blkO, hg])]; exact hw')
  | mp ks vs b es hg hw' hk hb hl h => exact .mp ks vs b es (by rw [hGo]; exact hg) (by rw [hw b (by simp [blkO, hg])]; exact hw') hk hb hl (fun j c hc => (h j c hc).mono hM hG)
  | mit m n seen b bm hg hm hw' => exact .mit m n seen b bm (by rw [hGo]; exact hg) (hG.iter hm) (by rw [hw b (by simp [blkO, hg])]; exact hw')

theorem blkO_congr {G G' : Gh} {o : Nat} (h : G' o = G o) (x : O) : blkO G' o x = blkO G o x := by cases x <;> simp [blkO, h]

theorem Inv.upd (I : Inv F n0 w M G ob) {o : Nat} {x : O} {M' : Mem} {G' : Gh} {w' : World} (hM : Mle M M') (hG : Gle G G') (hGo : ∀ o', o' ≠ o → G' o' = G o')
    (hw : ∀ o' x b, o' ≠ o → getO ob o' = some x → blkO G o' x = some b → w'.heap[b]? = w.heap[b]?)
    (hmem : ∀ b y, M' b = some y → w'.heap[b]? = some y)
    (hoff : ∀ o' x b, o' ≠ o → getO ob o' = some x → blkO G o' x = some b → M' b = none)
    (hnew : ObR w' M' G' o x)
    (hb : ∀ b, blkO G' o x = some b → (F b ∨ n0 ≤ b) ∧ M' b = none ∧ ∀ o' x, o' ≠ o → getO ob o' = some x → blkO G o' x ≠ some b)
    (ho : o < ob.length) : Inv F n0 w' M' G' (ob.set o (some x)) := by
  have hcase : ∀ o' y, getO (ob.set o (some x)) o' = some y → (o' = o ∧ y = x) ∨ (o' ≠ o ∧ getO ob o' = some y) := by
    intro o' y hy
    by_cases h : o' = o
    · subst h; rw [getO_set_self ho] at hy; exact .inl ⟨rfl, (Option.some.inj hy).symm⟩
    · rw [getO_set_ne (Ne.symm h)] at hy; exact .inr ⟨h, hy⟩
  refine ⟨hmem, ?_, ?_, ?_, ?_, ?_⟩
  · intro o' y hy
    rcases hcase o' y hy with ⟨rfl, rfl⟩ | ⟨hne, hy⟩
    · exact hnew
    · exact (I.obj o' y hy).mono hM hG (hGo o' hne) (fun b hb' => hw o' y b hne hy hb')
  · intro o1 o2 x1 x2 b h1 h2 hb1 hb2
    rcases hcase o1 x1 h1 with ⟨e1, e1'⟩ | ⟨hn1, k1⟩
    · rcases hcase o2 x2 h2 with ⟨e2, e2'⟩ | ⟨hn2, k2⟩
      · rw [e1, e2]
      · subst e1; subst e1'
        rw [blkO_congr (hGo o2 hn2)] at hb2
        exact absurd hb2 ((hb b hb1).2.2 o2 x2 hn2 k2)
    · rcases hcase o2 x2 h2 with ⟨e2, e2'⟩ | ⟨hn2, k2⟩
      · subst e2; subst e2'
        rw [blkO_congr (hGo o1 hn1)] at hb1
        exact absurd hb1 ((hb b hb2).2.2 o1 x1 hn1 k1)
      · rw [blkO_congr (hGo o1 hn1)] at hb1
        rw [blkO_congr (hGo o2 hn2)] at hb2
        exact I.dis o1 o2 x1 x2 b k1 k2 hb1 hb2
  · intro o' y b hy hb'
    rcases hcase o' y hy with ⟨rfl, rfl⟩ | ⟨hne, hy⟩
    · exact (hb b hb').2.1
    · rw [blkO_congr (hGo o' hne)] at hb'; exact hoff o' y b hne hy hb'
  · intro o' y b hy hb'
    rcases hcase o' y hy with ⟨rfl, rfl⟩ | ⟨hne, hy⟩
    · exact (hb b hb').1
    · rw [blkO_congr (hGo o' hne)] at hb'; exact I.own o' y b hy hb'
  · intro o' g hg
    rw [List.length_set]
    by_cases h : o' = o
    · subst h; exact ho
    · rw [hGo o' h] at hg; exact I.dom o' g hg

theorem Inv.lt (I : Inv F n0 w M G ob) {o : Nat} {x : O} {b : Nat} (h : getO ob o = some x) (hb : blkO G o x = some b) : b < w.heap.size := by
  have lt : ∀ {y : Obj}, w.heap[b]? = some y → b < w.heap.size := fun hy => (Array.getElem?_eq_some_iff.1 hy).1
  cases I.obj o x h with
  | box cs b' arr T hg hw hl h => simp [blkO, hg] at hb; subst hb; exact lt hw
  | row k ver es f ri b' st arr T hg hv hmax hk hb' hw hcap hlen he h => simp [blkO, hg, hv, hb'] at hb; subst hb; exact lt hw
  | nil k ver f ri hg hv hmax hk hb' hcap => simp [blkO, hg, hv, hb'] at hb
  | iter s pos b' hg hw => simp [blkO, hg] at hb; subst hb; exact lt hw
  | mp ks vs b' es hg hw => simp [blkO, hg] at hb; subst hb; exact lt hw
  | mit m n seen b' bm hg hm hw => simp [blkO, hg] at hb; subst hb; exact lt hw

theorem Inv.memlt (I : Inv F n0 w M G ob) {b : Nat} {y : Obj} (h : M b = some y) : b < w.heap.size := (Array.getElem?_eq_some_iff.1 (I.mem b y h)).1
theorem Inv.memfresh (I : Inv F n0 w M G ob) {b : Nat} (h : w.heap.size ≤ b) : M b = none := by
  cases hm : M b with
  | none => rfl
  | some y => exact absurd (I.memlt hm) (by omega)

def setG (G : Gh) (o : Nat) (g : GI) : Gh := fun o' => if o' = o then some g else G o'
theorem setG_self (G : Gh) (o : Nat) (g : GI) : setG G o g o = some g := by simp [setG]
theorem setG_ne (G : Gh) {o o' : Nat} (g : GI) (h : o' ≠ o) : setG G o g o' = G o' := by simp [setG, h]
theorem Gle.setG {G : Gh} {o : Nat} {g : GI} (h : ∀ g', G o = some g' → GI.le g' g) : Gle G (setG G o g) := by
  intro o' g' hg
  by_cases ho : o' = o
  · subst ho; exact ⟨g, setG_self _ _ _, h g' hg⟩
  · exact ⟨g', by rw [setG_ne _ _ ho]; exact hg, GI.le_refl _⟩

theorem Inv.new (I : Inv F n0 w M G ob) {o : Nat} (hG : G o = none) (ho : o < ob.length) {x : O} {g : GI} {y : Obj} {w' : World} (hw : w'.heap = w.heap.push y) (hn : n0 ≤ w.heap.size)
    (hnew : ObR w' M (setG G o g) o x) (hb : ∀ b, blkO (setG G o g) o x = some b → b = w.heap.size) : Inv F n0 w' M (setG G o g) (ob.set o (some x)) := by
  have hold : ∀ b, b < w.heap.size → w'.heap[b]? = w.heap[b]? := fun b hb => by rw [hw, Array.getElem?_push, if_neg (by omega)]
  refine I.upd (Mle.refl M) (Gle.setG (fun g' hg => by rw [hG] at hg; cases hg)) (fun o' h => setG_ne G g h) (fun o' x b _ h1 h2 => hold b (I.lt h1 h2))
    (fun b y hy => by rw [hold b (I.memlt hy)]; exact I.mem b y hy) (fun o' x b _ h1 h2 => I.off o' x b h1 h2) hnew (fun b hb' => ?_) ho
  have := hb b hb'
  subst this
  exact ⟨.inr hn, I.memfresh (Nat.le_refl _), fun o' x _ h1 h2 => absurd (I.lt h1 h2) (by omega)⟩

theorem getO_append_none (ob : OT) (o : Nat) : getO (ob ++ [none]) o = getO ob o := by
  unfold getO
  rcases Nat.lt_or_ge o ob.length with h | h
  · rw [List.getElem?_append_left h]
  · rw [List.getElem?_append_right h, List.getElem?_eq_none h]
    cases h' : o - ob.length with
    | zero => simp
    | succ n => simp
theorem getO_append_none' (ob : OT) : getO (ob ++ [none]) = getO ob := funext (getO_append_none ob)
theorem Inv.pad (I : Inv F n0 w M G ob) : Inv F n0 w M G (ob ++ [none]) := by
  refine ⟨I.mem, ?_, ?_, ?_, ?_, fun o g h => by have := I.dom o g h; simp; omega⟩ <;> simp only [getO_append_none]
  · exact I.obj
  · exact I.dis
  · exact I.off
  · exact I.own

theorem Inv.kill (I : Inv F n0 w M G ob) {o : Nat} {x : O} (hx : getO ob o = some x) : ∃ M', Mle M M' ∧ Inv F n0 w M' G (ob.set o none) ∧ ∀ b, blkO G o x = some b → M' b = w.heap[b]? := by
  have ho := getO_lt hx
  have hcase : ∀ o' y, getO (ob.set o none) o' = some y → o' ≠ o ∧ getO ob o' = some y := by
    intro o' y hy
    by_cases h : o' = o
    · subst h; rw [getO_set_self ho] at hy; cases hy
    · rw [getO_set_ne (Ne.symm h)] at hy; exact ⟨h, hy⟩
  refine ⟨fun b => if blkO G o x = some b then w.heap[b]? else M b, ?_, ⟨?_, ?_, ?_, ?_, ?_, fun o' g h => by rw [List.length_set]; exact I.dom o' g h⟩, fun b hb => if_pos hb⟩
  · intro b y hy
    have : blkO G o x ≠ some b := fun hb => by rw [I.off o x b hx hb] at hy; cases hy
    simp only [this, if_false]; exact hy
  · intro b y hy
    by_cases hb : blkO G o x = some b
    · simpa [hb] using hy
    · simp only [hb, if_false] at hy; exact I.mem b y hy
  · intro o' y hy
    obtain ⟨hne, hy⟩ := hcase o' y hy
    refine (I.obj o' y hy).mono ?_ (Gle.refl G) rfl (fun _ _ => rfl)
    intro b z hz
    have : blkO G o x ≠ some b := fun hb => by rw [I.off o x b hx hb] at hz; cases hz
    simp only [this, if_false]; exact hz
  · intro o1 o2 x1 x2 b h1 h2 hb1 hb2
    exact I.dis o1 o2 x1 x2 b (hcase _ _ h1).2 (hcase _ _ h2).2 hb1 hb2
  · intro o' y b hy hb
    obtain ⟨hne, hy⟩ := hcase o' y hy
    have : blkO G o x ≠ some b := fun hb' => hne (I.dis o' o y x b hy hx hb hb')
    simp only [this, if_false]; exact I.off o' y b hy hb
  · intro o' y b hy hb
    exact I.own o' y b (hcase _ _ hy).2 hb
end
end Go.Ab
end
section
/- Operations that make memory. -/
namespace Go.Ab
open Go

section
variable {P : Program} {τ : TT} {γ : GT} {F : Nat → Prop} {n0 : Nat} {w : World} {M : Mem} {G : Gh} {ob : OT}

def newT (ob : OT) (nb : Nat) (k : K3) : OT := match k.2.2 with
  | some x => (upds ob k.2.1).set nb (some x)
  | none => upds ob k.2.1

structure FrS (F : Nat → Prop) (n0 : Nat) (w w' : World) : Prop where
  os : w'.os = w.os
  tape : w'.tape = w.tape
  output : w'.output = w.output
  size : w.heap.size ≤ w'.heap.size
  block : ∀ b, b < n0 → ¬ F b → w'.heap[b]? = w.heap[b]?
theorem FrS.refl (F : Nat → Prop) (n0 : Nat) (w : World) : FrS F n0 w w := ⟨rfl, rfl, rfl, Nat.le_refl _, fun _ _ _ => rfl⟩
theorem FrS.trans {F : Nat → Prop} {n0 : Nat} {a b c : World} (h : FrS F n0 a b) (k : FrS F n0 b c) : FrS F n0 a c :=
  ⟨k.os.trans h.os, k.tape.trans h.tape, k.output.trans h.output, Nat.le_trans h.size k.size, fun i hi hF => (k.block i hi hF).trans (h.block i hi hF)⟩
theorem FrS.push {F : Nat → Prop} {n0 : Nat} {w : World} (hn : n0 ≤ w.heap.size) (y : Obj) : FrS F n0 w { w with heap := w.heap.push y } :=
  ⟨rfl, rfl, rfl, by simp, fun b hb _ => by simp only [Array.getElem?_push]; rw [if_neg (by omega)]⟩
theorem FrS.drawn {F : Nat → Prop} {n0 : Nat} {w w' : World} (h : FrS F n0 w w') (d : Nat) : FrS F n0 { w with drawn := d } w' := ⟨h.os, h.tape, h.output, h.size, h.block⟩

def OpM (P : Program) (F : Nat → Prop) (n0 : Nat) (w : World) (M : Mem) (G : Gh) (ob : OT) (nb : Nat) (k : K3) (s : Sem Value) : Prop :=
  ∃ x w' M' G', s.run P w = .ok x w' ∧ Mle M M' ∧ Gle G G' ∧ VR M' G' k.1 x ∧ Inv F n0 w' M' G' (newT ob nb k) ∧ FrS F n0 w w' ∧ (∀ o, o < ob.length → G o = none → (o ≠ nb ∨ k.2.2 = none) → G' o = none)

theorem OpV.opM (I : Inv F n0 w M G ob) {nb : Nat} {k : K3} {s : Sem Value} (h : OpV P w M G k s) : OpM P F n0 w M G ob nb k s := by
  obtain ⟨v, x, rfl, h1, h2⟩ := h
  exact ⟨x, w, M, G, h1, Mle.refl M, Gle.refl G, h2, I, FrS.refl _ _ _, fun _ _ h _ => h⟩

structure Nb (G : Gh) (ob : OT) (nb : Nat) : Prop where
  g : G nb = none
  lt : nb < ob.length

theorem newbox (I : Inv F n0 w M G ob) {nb : Nat} (N : Nb G ob nb) (hn : n0 ≤ w.heap.size) (T : TypeId) (cs : List V) (arr : Array Value) (hl : arr.size = cs.length)
    (h : ∀ j c, cs[j]? = some c → VR M G c (arr.getD j undef)) (s : Sem Value) (hs : s.run P w = .ok (.pointer (some ⟨w.heap.size, 0, none⟩)) { w with heap := w.heap.push (.cells arr T) }) :
    OpM P F n0 w M G ob nb (.ref nb 0, [], some (.box cs)) s := by
  have hle : Gle G (setG G nb (.box w.heap.size)) := Gle.setG (fun g' hg => by rw [N.g] at hg; cases hg)
  refine ⟨_, _, M, setG G nb (.box w.heap.size), hs, Mle.refl M, hle, .ref _ _ _ (setG_self _ _ _), ?_, FrS.push hn _, fun o _ hg hne => (setG_ne _ _ (hne.resolve_right (by simp))).trans hg⟩
  refine I.new N.g N.lt rfl hn (.box cs w.heap.size arr T (setG_self _ _ _) (by simp) hl (fun j c hc => (h j c hc).mono (Mle.refl M) hle)) (fun b hb => ?_)
  simp [blkO, setG_self] at hb
  exact hb.symm

theorem alloc_sound {T : TypeId} {i : TI} (A : Agree P τ) (hT : τ T = some i) (I : Inv F n0 w M G ob) {nb : Nat} (N : Nb G ob nb) (hn : n0 ≤ w.heap.size) :
    OpM P F n0 w M G ob nb (.ref nb 0, [], some (.box (zeroC i))) (Instr.alloc T true (.tuple #[])) := by
  refine newbox I N hn T _ i.zero.cells (by simp [zeroC]) (fun j c hc => ?_) _ ?_
  · simp only [zeroC, List.getElem?_map, Option.map_eq_some_iff] at hc
    obtain ⟨x, hx, rfl⟩ := hc
    have : i.zero.cells.getD j undef = x := by simp at hx; simp [hx]
    rw [this]
    exact VR.constC M G x
  · simp [Instr.alloc, run_zero A w hT, newVar, newRow]

theorem box_sound {T : TypeId} (I : Inv F n0 w M G ob) {nb : Nat} (N : Nb G ob nb) (hn : n0 ≤ w.heap.size) {v : V} {r : Value} (hv : VR M G v r) (h1 : v.cells.all (oneC (getO ob)) = true) :
    OpM P F n0 w M G ob nb (.ref nb 0, [], some (.box v.cells)) (Instr.box T r) := by
  obtain ⟨h2, h3, h4⟩ := VR.cells I hv h1
  exact newbox I N hn T _ r.cells h2.symm h3 _ (by simp [Instr.box, newVar, newRow])

theorem newrow (I : Inv F n0 w M G ob) {nb : Nat} (N : Nb G ob nb) (hn : n0 ≤ w.heap.size) (T : TypeId) (k len cap : Nat) (es : List (List Tr)) (arr : Array Value) (w' : World) (hw : w'.heap = w.heap.push (.cells arr T)) (hf : FrS F n0 w w')
    (hlen : es.length = len) (hcap : cap * k ≤ arr.size) (hle : len ≤ cap) (he : ∀ e ∈ es, e.length = k) (h : RowCells M arr 0 k es) (s : Sem Value)
    (hs : s.run P w = .ok (.slice (some ⟨w.heap.size, 0, none⟩) len cap) w') :
    OpM P F n0 w M G ob nb (.row nb 0 0 len, [], some (.row k 0 es)) s := by
  let ri : RI := ⟨some (w.heap.size, 0), cap, k⟩
  let g : GI := .row (fun v => if v = 0 then some ri else none)
  have hgle : Gle G (setG G nb g) := Gle.setG (fun g' hg => by rw [N.g] at hg; cases hg)
  refine ⟨_, _, M, setG G nb g, hs, Mle.refl M, hgle, ?_, ?_, hf, fun o _ hg hne => (setG_ne _ _ (hne.resolve_right (by simp))).trans hg⟩
  · have := VR.row (M := M) (G := setG G nb g) nb 0 0 len (fun v => if v = 0 then some ri else none) ri (some ⟨w.heap.size, 0, none⟩) (setG_self _ _ _) (by simp) (by simpa [ri] using hle)
      (fun _ => ⟨w.heap.size, 0, rfl, by simp [ri]⟩)
    simpa [ri] using this
  · refine I.new N.g N.lt hw hn (.row k 0 es _ ri w.heap.size 0 arr T (setG_self _ _ _) (by simp) (fun v hv => by simp; omega) rfl rfl (by rw [hw]; simp) (by simpa [ri] using hcap) (by simp [ri]; omega) he h) (fun b hb => ?_)
    simp [blkO, g, setG_self, ri] at hb
    exact hb.symm
end
end Go.Ab
end
