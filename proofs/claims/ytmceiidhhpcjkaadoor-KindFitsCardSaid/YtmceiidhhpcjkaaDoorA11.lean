/- A machine that carries out the translated code on data, and why it is right, part 11 -/
import Derived.Lib.Bytealg
import Derived.Lib.Slices
import Derived.Lib.Strings
import Derived.Lib.Walk
import Derived.Test.YtmceiidhhpcjkaaDoorA10
set_option linter.all false
section
/- Calls that leave the world as it is. -/
namespace Go.Ab
open Go Go.Pp

variable {L : Lg}

theorem lit_is {M : Mem} {G : Gh} {x r : Value} (h : VR M G (vlit x) r) : r = x := by
  cases h with
  | tr hh => cases hh; rfl

theorem Valid.quiet2 {f : FuncId} {x y : Value} {res : V} {z : Value} {ob : OT} (hf : FnOk L.P f) (hr : ∀ M G, VR M G res z)
    (h : ∀ w, Calls L.P f #[x, y] w fun e w' => e = .returned z ∧ w' = w) : Valid L f [vlit x, vlit y] ob res ob := by
  refine ⟨hf, Nat.le_refl _, fun w M G rs I hg hl ha => ?_⟩
  have e0 := lit_is (ha 0 _ rfl)
  have e1 := lit_is (ha 1 _ rfl)
  have hrs : rs = #[x, y] := by
    have hs : rs.size = 2 := hl.symm
    apply Array.ext
    · simpa using hs
    · intro i h1 h2
      match i, h1 with
      | 0, h1 => simpa [Array.getD, h1] using e0
      | 1, h1 => simpa [Array.getD, h1] using e1
      | i + 2, h1 => omega
  subst hrs
  refine (h w).mono ?_
  rintro e w' ⟨rfl, rfl⟩
  exact ⟨z, M, G, rfl, Mle.refl _, Gle.refl _, hr M G, I, FrS.refl _ _ _, fun _ _ h => h⟩

theorem ixBL_is : ∀ (l : List UInt8) (c : UInt8), Lib.indexByte l c = ixBL l c
  | [], _ => rfl
  | b :: l, c => by unfold Lib.indexByte ixBL; rw [ixBL_is l c]

def Fz (M : Mem) (G : Gh) (j ver k : Nat) (es : List (List Tr)) : Prop := ∀ M0 r, VR M0 G (.row j ver 0 es.length) r → TR M (.sl k false es) r
def VZ (j ver k : Nat) (es : List (List Tr)) (v v' : V) : Prop := ∀ M G r, Fz M G j ver k es → VR M G v r → VR M G v' r
section
variable {F : Nat → Prop} {n0 : Nat} {w : World} {M : Mem} {G : Gh} {ob ob' : OT} {j ver k : Nat} {es : List (List Tr)}
theorem VZ.refl {v : V} : VZ j ver k es v v := fun _ _ _ _ h => h
theorem VZ.row {n : Nat} (hn : n = es.length) : VZ j ver k es (.row j ver 0 n) (.tr (.sl k false es)) := by subst hn; exact fun _ _ r hf h => .tr (hf _ r h)
theorem VZ.agg {cs cs' : List V} (h : SlR (VZ j ver k es) cs cs') : VZ j ver k es (.agg cs) (.agg cs') := fun M G r hg hr => by
  cases hr with
  | agg _ vs hl hh => exact .agg cs' vs (h.length ▸ hl) (fun j c hj => by
      obtain ⟨v, hv, hR⟩ := h.get hj
      exact hR M G _ hg (hh j v hv))
theorem VZ.tup {cs cs' : List V} (h : SlR (VZ j ver k es) cs cs') : VZ j ver k es (.tup cs) (.tup cs') := fun M G r hg hr => by
  cases hr with
  | tup _ vs hl hh => exact .tup cs' vs (h.length ▸ hl) (fun j c hj => by
      obtain ⟨v, hv, hR⟩ := h.get hj
      exact hR M G _ hg (hh j v hv))

theorem row_uniq {M0 M1 : Mem} {n : Nat} {r r' : Value} (hn : 0 < n) (h : VR M0 G (.row j ver 0 n) r) (h' : VR M1 G (.row j ver 0 n) r') : r = r' := by
  cases h with
  | row _ _ _ _ f ri a hg hv hl ha =>
    cases h' with
    | row _ _ _ _ f' ri' a' hg' hv' hl' ha' =>
      rw [hg] at hg'; cases hg'
      rw [hv] at hv'; cases hv'
      obtain ⟨b, st, e1, e2⟩ := ha (by omega)
      obtain ⟨b', st', e1', e2'⟩ := ha' (by omega)
      rw [e1] at e1'; cases e1'
      rw [e2, e2']

theorem Inv.frozen (I : Inv F n0 w M G ob) (hj : getO ob j = some (.row k ver es)) : ∃ M', Mle M M' ∧ Inv F n0 w M' G (ob.set j none) ∧ Fz M' G j ver k es := by
  by_cases hes : es = []
  · subst hes
    obtain ⟨M', h1, h2, _⟩ := I.kill hj
    refine ⟨M', h1, h2, fun M0 r hr => ?_⟩
    cases hr with
    | row _ _ _ _ f ri a hg hv hl ha => exact .nil _ _ _ _ (by simp)
  · by_cases hex : ∃ M0 r, VR M0 G (.row j ver 0 es.length) r
    · obtain ⟨M0, r0, h0⟩ := hex
      have h0' : VR M G (.row j ver 0 es.length) r0 := by
        cases h0 with
        | row _ _ _ _ f ri a hg hv hl ha => exact .row _ _ _ _ f ri a hg hv hl ha
      have ht : toTr (getO ob) (.row j ver 0 es.length) = some (.sl k false es, [(j, none)]) := by simp [toTr, rdS, hj]
      obtain ⟨M', a1, a2, _, a4⟩ := toTr_sound I (Mle.refl M) I (Gone.self M G ob) h0' ht
      exact ⟨M', a1, a2, fun M1 r hr => by rw [row_uniq (List.length_pos_iff.2 hes) hr h0]; exact a4⟩
    · obtain ⟨M', h1, h2, _⟩ := I.kill hj
      exact ⟨M', h1, h2, fun M0 r hr => absurd ⟨M0, r, hr⟩ hex⟩

def TZ (j ver k : Nat) (es : List (List Tr)) (ob ob' : OT) : Prop := ob'.length = ob.length ∧ ∀ o x', getO ob' o = some x' → o ≠ j ∧ ∃ x, getO ob o = some x ∧ OR (VZ j ver k es) x x'

theorem Inv.frozenT (I : Inv F n0 w M G ob) (hj : getO ob j = some (.row k ver es)) (h : TZ j ver k es ob ob') : ∃ M', Mle M M' ∧ Inv F n0 w M' G ob' ∧ Fz M' G j ver k es := by
  obtain ⟨M', a1, a2, a3⟩ := I.frozen hj
  obtain ⟨h1, h3⟩ := h
  have hblk : ∀ o x x', OR (VZ j ver k es) x x' → blkO G o x' = blkO G o x := by
    intro o x x' hR
    cases hR with
    | box => rfl
    | same => rfl
  have hset : ∀ {o x}, o ≠ j → getO ob o = some x → getO (ob.set j none) o = some x := fun ho hx => by rw [getO_set_ne (Ne.symm ho)]; exact hx
  have hcase : ∀ {o x b}, getO ob' o = some x → blkO G o x = some b → ∃ y, getO (ob.set j none) o = some y ∧ blkO G o y = some b := by
    intro o x b hx hb
    obtain ⟨ho, y, hy, hR⟩ := h3 o x hx
    exact ⟨y, hset ho hy, by rw [← hblk o y x hR]; exact hb⟩
  refine ⟨M', a1, ⟨a2.mem, fun o x hx => ?_, fun o o' x x' b hx hx' hb hb' => ?_, fun o x b hx hb => ?_, fun o x b hx hb => ?_, fun o g hg => ?_⟩, a3⟩
  · obtain ⟨ho, y, hy, hR⟩ := h3 o x hx
    have hO := a2.obj o y (hset ho hy)
    cases hR with
    | same => exact hO
    | box cs cs' hs =>
      cases hO with
      | box _ b arr T hg hw hl hh => exact .box cs' b arr T hg hw (hl.trans hs.length) (fun i c hi => by
          obtain ⟨v, hv, hR⟩ := hs.get hi
          exact hR M' _ _ a3 (hh i v hv))
  · obtain ⟨y, hy, hb⟩ := hcase hx hb
    obtain ⟨y', hy', hb'⟩ := hcase hx' hb'
    exact a2.dis o o' y y' b hy hy' hb hb'
  · obtain ⟨y, hy, hb⟩ := hcase hx hb
    exact a2.off o y b hy hb
  · obtain ⟨y, hy, hb⟩ := hcase hx hb
    exact a2.own o y b hy hb
  · have := a2.dom o g hg
    rw [List.length_set] at this
    omega
end

section
variable {m n : Nat} {as as' : AS} {b l l' ob ob' : OT} {j ver k : Nat} {es : List (List Tr)}
theorem Wk.frz {s s' : List V} (hj : getO ob j = some (.row k ver es)) (hs : SlR (VZ j ver k es) s s') (ho : TZ j ver k es ob ob') : Wk L m ⟨s, ob⟩ ⟨s', ob'⟩ := by
  intro X a w hm ⟨M, G, R⟩
  obtain ⟨M', hle, hI, hF⟩ := R.inv.frozenT hj ho
  refine ⟨M', G, ⟨R.m.trans hle, R.g, hI, R.fr, R.glob.mono hle, hs.length.symm.trans R.len, fun t v hv => ?_, R.free, ?_, R.size, R.defers, R.dom0⟩⟩
  · obtain ⟨v0, h0, hR⟩ := hs.get hv
    exact hR M' G _ hF ((R.slots t v0 h0).mono hle (Gle.refl G))
  · have e := ho.1
    exact Nat.le_trans R.low (by show ob.length ≤ ob'.length; omega)

def obZ (j ver k : Nat) (es : List (List Tr)) (i : Nat) : OT → OT → Prop
  | [], [] => True
  | x :: l, y :: l' => (y = none ∨ (i ≠ j ∧ ∃ a b, x = some a ∧ y = some b ∧ OR (VZ j ver k es) a b)) ∧ obZ j ver k es (i + 1) l l'
  | _, _ => False
theorem obZ_len : ∀ {i : Nat} {l l' : OT}, obZ j ver k es i l l' → l'.length = l.length
  | _, [], [], _ => rfl
  | _, _ :: _, _ :: _, h => congrArg (· + 1) (obZ_len h.2)
theorem obZ_get : ∀ {i0 : Nat} {l l' : OT}, obZ j ver k es i0 l l' → ∀ {i : Nat} {x' : O}, getO l' i = some x' → i0 + i ≠ j ∧ ∃ x, getO l i = some x ∧ OR (VZ j ver k es) x x'
  | _, [], [], _, i, x', h => by simp [getO] at h
  | i0, x :: l, y :: l', h, 0, x', hx => by
    simp only [getO, List.getElem?_cons_zero, Option.getD_some] at hx ⊢
    subst hx
    rcases h.1 with h1 | ⟨hne, a, b, rfl, hb, h1⟩
    · cases h1
    · cases hb; exact ⟨hne, a, rfl, h1⟩
  | i0, x :: l, y :: l', h, i + 1, x', hx => by
    obtain ⟨hne, z, h1, h2⟩ := obZ_get h.2 (i := i) (by simpa [getO] using hx)
    exact ⟨by omega, z, by simpa [getO] using h1, h2⟩

theorem To.frz (i : Nat) {k ver : Nat} {es : List (List Tr)} (hj : getO l i = some (.row k ver es)) (h : entR (VZ (b.length + i) ver k es) as as') (ho : obZ (b.length + i) ver k es b.length l l') : To L m n as (b ++ l) as' (b ++ l') := by
  have hl := obZ_len ho
  refine Wk.frz (j := b.length + i) (k := k) (ver := ver) (es := es) (by rw [getO_app]; exact hj) (slR_mkS (fun _ _ _ r _ _ => .junk r) h) ⟨by simp [hl], fun o x' hx => ?_⟩
  by_cases hb : o < b.length
  · rw [getO_low hb] at hx ⊢
    exact ⟨by omega, x', hx, .same x'⟩
  · obtain ⟨q, rfl⟩ := Nat.exists_eq_add_of_le (Nat.le_of_not_lt hb)
    rw [getO_app] at hx ⊢
    exact obZ_get ho hx
end

def VA (v v' : V) : Prop := ∀ (M : Mem) (G : Gh) (r : Value), VR M G v r → VR M G v' r
theorem VA.refl {v : V} : VA v v := fun _ _ _ h => h
theorem VA.nil {k k' : Nat} {f : Bool} : VA (.tr (.sl k f [])) (.tr (.sl k' false [])) := fun M G r h => by
  cases h with
  | tr h => cases h with
    | nil _ _ a c hc => exact .tr (.nil _ _ _ _ (by simp))
    | sl _ _ _ b off c ff hc hle hk hm ht => exact .tr (.nil _ _ _ _ (by simp))
theorem VA.notFull {k : Nat} {f : Bool} {es : List (List Tr)} : VA (.tr (.sl k f es)) (.tr (.sl k false es)) := fun M G r h => by
  cases h with
  | tr h => cases h with
    | nil _ _ a c hc => exact .tr (.nil _ _ _ _ (by simp))
    | sl _ _ _ b off c ff hc hle hk hm ht => exact .tr (.sl _ _ _ _ _ _ _ (by simp) hle hk hm ht)
theorem VA.agg {cs cs' : List V} (h : SlR VA cs cs') : VA (.agg cs) (.agg cs') := fun M G r hr => by
  cases hr with
  | agg _ vs hl hh => exact .agg cs' vs (h.length ▸ hl) (fun j c hj => by
      obtain ⟨v, hv, hR⟩ := h.get hj
      exact hR M G _ (hh j v hv))
theorem Valid.frzJ {f : FuncId} {args args' : List V} {ob ob' : OT} {res : V} {j ver k : Nat} {es : List (List Tr)} (hj : getO ob j = some (.row k ver es)) (hs : SlR (VZ j ver k es) args args')
    (h : Valid L f args' (ob.set j none) res ob') : Valid L f args ob res ob' := by
  obtain ⟨h1, h2, h3⟩ := h
  rw [List.length_set] at h2
  refine ⟨h1, h2, fun w M G rs I hγ hln hv => ?_⟩
  obtain ⟨M', a1, a2, a3⟩ := I.frozen hj
  have hk : ∀ p ∈ [((j, none) : Nat × Option O)], p.2 = none := by simp
  have a2' : Inv (FB G (ob.set j none)) w.heap.size w M' G (ob.set j none) := ⟨a2.mem, a2.obj, a2.dis, a2.off, fun o x b h hb => .inl ⟨o, x, h, hb⟩, a2.dom⟩
  refine (h3 w M' G rs a2' (hγ.mono a1) (hs.length ▸ hln) (fun i c hi => ?_)).mono ?_
  · obtain ⟨v, h0, hR⟩ := hs.get hi
    exact hR M' G _ a3 ((hv i v h0).mono a1 (Gle.refl G))
  · rintro e w' ⟨r, M2, G2, he, hM, hG, hr', I', fr, free⟩
    refine ⟨r, M2, G2, he, a1.trans hM, hG, hr', ⟨I'.mem, I'.obj, I'.dis, I'.off, fun o x b h hb => ?_, I'.dom⟩, ⟨fr.os, fr.tape, fr.output, fr.size, fun b hb hF => fr.block b hb (fun hF' => hF (FB_upds (ks := [(j, none)]) hk hF'))⟩, fun o ho hg => free o (by rw [List.length_set]; exact ho) hg⟩
    rcases I'.own o x b h hb with h' | h'
    · exact .inl (FB_upds (ks := [(j, none)]) hk h')
    · exact .inr h'
theorem Valid.frzR {f : FuncId} {args args' : List V} {b l l' ob' : OT} {res : V} (i : Nat) {ver k : Nat} {es : List (List Tr)} (hj : getO l i = some (.row k ver es)) (hl : l.set i none = l')
    (hs : SlR (VZ (b.length + i) ver k es) args args') (h : Valid L f args' (b ++ l') res ob') : Valid L f args (b ++ l) res ob' := by
  subst hl
  refine Valid.frzJ (j := b.length + i) (by rw [getO_app]; exact hj) hs ?_
  rw [show (b ++ l).set (b.length + i) none = b ++ l.set i none by rw [set_app]]
  exact h

def TrLe (t t' : Tr) : Prop := ∀ (M : Mem) (r : Value), TR M t r → TR M t' r
def TsLe : List Tr → List Tr → Prop
  | [], [] => True
  | t :: l, t' :: l' => TrLe t t' ∧ TsLe l l'
  | _, _ => False
def EsLe : List (List Tr) → List (List Tr) → Prop
  | [], [] => True
  | t :: l, t' :: l' => TsLe t t' ∧ EsLe l l'
  | _, _ => False
theorem TrLe.refl {t : Tr} : TrLe t t := fun _ _ h => h
theorem TrLe.nil {k k' : Nat} {f : Bool} : TrLe (.sl k f []) (.sl k' false []) := fun M r h => by
  cases h with
  | nil _ _ a c hc => exact .nil _ _ _ _ (by simp)
  | sl _ _ _ b off c ff hc hle hk hm ht => exact .nil _ _ _ _ (by simp)
theorem TsLe.len : ∀ {l l' : List Tr}, TsLe l l' → l.length = l'.length
  | [], [], _ => rfl
  | _ :: _, _ :: _, h => congrArg (· + 1) h.2.len
theorem EsLe.len : ∀ {l l' : List (List Tr)}, EsLe l l' → l.length = l'.length
  | [], [], _ => rfl
  | _ :: _, _ :: _, h => congrArg (· + 1) h.2.len
theorem TsLe.get : ∀ {l l' : List Tr}, TsLe l l' → ∀ {j : Nat} {t' : Tr}, l'[j]? = some t' → ∃ t, l[j]? = some t ∧ TrLe t t'
  | [], [], _, j, t', hj => by simp at hj
  | _ :: _, _ :: _, h, 0, t', hj => ⟨_, rfl, by simp at hj; subst hj; exact h.1⟩
  | _ :: _, _ :: _, h, j + 1, t', hj => h.2.get (by simpa using hj)
theorem EsLe.get : ∀ {l l' : List (List Tr)}, EsLe l l' → ∀ {j : Nat} {t' : List Tr}, l'[j]? = some t' → ∃ t, l[j]? = some t ∧ TsLe t t'
  | [], [], _, j, t', hj => by simp at hj
  | _ :: _, _ :: _, h, 0, t', hj => ⟨_, rfl, by simp at hj; subst hj; exact h.1⟩
  | _ :: _, _ :: _, h, j + 1, t', hj => h.2.get (by simpa using hj)
theorem EsLe.mem {l l' : List (List Tr)} (h : EsLe l l') {t' : List Tr} (hm : t' ∈ l') : ∃ t ∈ l, TsLe t t' := by
  obtain ⟨j, hj⟩ := List.getElem?_of_mem hm
  obtain ⟨t, ht, hl⟩ := h.get hj
  exact ⟨t, List.mem_of_getElem? ht, hl⟩
theorem TrLe.sl {k : Nat} {f : Bool} {es es' : List (List Tr)} (h : EsLe es es') : TrLe (.sl k f es) (.sl k false es') := fun M r hr => by
  cases hr with
  | nil _ _ a c hc =>
    cases es' with
    | nil => exact .nil _ _ _ _ (by simp)
    | cons _ _ => exact h.elim
  | sl _ _ _ b off c ff hc hle hk hm ht =>
    rw [h.len]
    exact .sl _ _ _ b off c ff (by simp) (h.len ▸ hle) (fun e he => by obtain ⟨t, h1, h2⟩ := h.mem he; rw [← h2.len]; exact hk t h1) (fun i e j t hi hj => by
      obtain ⟨e0, h0, hE⟩ := h.get hi
      obtain ⟨t0, h1, hT⟩ := hE.get hj
      exact hm i e0 j t0 h0 h1) (fun i e j t hi hj => by
      obtain ⟨e0, h0, hE⟩ := h.get hi
      obtain ⟨t0, h1, hT⟩ := hE.get hj
      exact hT M _ (ht i e0 j t0 h0 h1))
end Go.Ab
end
