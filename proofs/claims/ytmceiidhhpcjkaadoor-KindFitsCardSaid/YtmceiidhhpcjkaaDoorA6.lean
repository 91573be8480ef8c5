/- A machine that carries out the translated code on data, and why it is right, part 6 -/
import Derived.Laws.MakeOwn
import Derived.Test.YtmceiidhhpcjkaaDoorA5
set_option linter.all false
section
/- Values that become trees. -/
namespace Go.Ab
open Go

section
variable {P : Program} {τ : TT} {γ : GT} {F : Nat → Prop} {n0 : Nat} {w : World} {M : Mem} {G : Gh} {ob : OT}

theorem upds_append (ob : OT) (a b : List (Nat × Option O)) : upds ob (a ++ b) = upds (upds ob a) b := by
  induction a generalizing ob with
  | nil => rfl
  | cons x r ih => obtain ⟨i, y⟩ := x; simp [upds, ih]
theorem upds_length (ob : OT) (a : List (Nat × Option O)) : (upds ob a).length = ob.length := by
  induction a generalizing ob with
  | nil => rfl
  | cons x r ih => obtain ⟨i, y⟩ := x; simp [upds, ih]

def Gone (w : World) (M : Mem) (G : Gh) (ob ob' : OT) : Prop := ∀ o x, getO ob o = some x → getO ob' o = some x ∨ ∀ b, blkO G o x = some b → M b = w.heap[b]?

theorem toTr_sound (I0 : Inv F n0 w M G ob) {M1 : Mem} {ob1 : OT} (hM1 : Mle M M1) (I : Inv F n0 w M1 G ob1) (hgone : Gone w M1 G ob ob1) {v : V} {r : Value} (hv : VR M G v r) {t : Tr} {ks : List (Nat × Option O)}
    (h : toTr (getO ob) v = some (t, ks)) : ∃ M', Mle M1 M' ∧ Inv F n0 w M' G (upds ob1 ks) ∧ Gone w M' G ob (upds ob1 ks) ∧ TR M' t r := by
  cases hv with
  | tr ht =>
    simp only [toTr, Option.some.injEq, Prod.mk.injEq] at h
    obtain ⟨rfl, rfl⟩ := h
    exact ⟨M1, Mle.refl _, I, hgone, ht.mono hM1⟩
  | row o ver off len f ri a hg hvv hl ha =>
    simp only [toTr] at h
    cases hr : rdS (getO ob) (.row o ver off len) with
    | none => simp [hr] at h
    | some p =>
      obtain ⟨k, es⟩ := p
      simp only [hr, Option.some.injEq, Prod.mk.injEq] at h
      obtain ⟨rfl, rfl⟩ := h
      obtain ⟨a', c', heq, hle, _, hk, hrd⟩ := rd_sound I0 (.row o ver off len f ri a hg hvv hl ha) hr
      simp only [Value.slice.injEq] at heq
      obtain ⟨rfl, rfl, rfl⟩ := heq
      simp only [rdS] at hr
      cases hoo : getO ob o with
      | none => simp [hoo] at hr
      | some x =>
        -- the block stays from now on
        have hstep : ∃ M', Mle M1 M' ∧ Inv F n0 w M' G (ob1.set o none) ∧ Gone w M' G ob (ob1.set o none) ∧ ∀ b, blkO G o x = some b → M' b = w.heap[b]? := by
          rcases hgone o x hoo with hlive | hdead
          · obtain ⟨M', h1, h2, h3⟩ := I.kill hlive
            refine ⟨M', h1, h2, ?_, h3⟩
            intro o' x' ho'
            by_cases he : o' = o
            · subst he
              rw [hoo] at ho'
              cases ho'
              exact .inr h3
            · rcases hgone o' x' ho' with h' | h'
              · exact .inl (by rw [getO_set_ne (Ne.symm he)]; exact h')
              · refine .inr fun b hb => ?_
                have := h' b hb
                cases hM : M1 b with
                | none =>
                  rw [hM] at this
                  have hlt := I0.lt ho' hb
                  rw [Array.getElem?_eq_getElem hlt] at this
                  cases this
                | some y => rw [h1 b y hM, ← hM]; exact this
          · cases h1 : getO ob1 o with
            | some y =>
              obtain ⟨M', h1', h2, h3⟩ := I.kill h1
              have hkeep : ∀ o' x', getO ob o' = some x' → (∀ b, blkO G o' x' = some b → M1 b = w.heap[b]?) → ∀ b, blkO G o' x' = some b → M' b = w.heap[b]? := by
                intro o' x' ho' h' b hb
                have := h' b hb
                cases hM : M1 b with
                | none =>
                  rw [hM] at this
                  have hlt := I0.lt ho' hb
                  rw [Array.getElem?_eq_getElem hlt] at this
                  cases this
                | some z => rw [h1' b z hM, ← hM]; exact this
              refine ⟨M', h1', h2, ?_, hkeep o x hoo hdead⟩
              intro o' x' ho'
              by_cases he : o' = o
              · subst he
                rw [hoo] at ho'
                cases ho'
                exact .inr (hkeep o' x hoo hdead)
              · rcases hgone o' x' ho' with h' | h'
                · exact .inl (by rw [getO_set_ne (Ne.symm he)]; exact h')
                · exact .inr (hkeep o' x' ho' h')
            | none =>
              have hset : getO (ob1.set o none) = getO ob1 := by
                funext o'
                by_cases he : o' = o
                · subst he
                  unfold getO
                  rcases Nat.lt_or_ge o' ob1.length with hlt | hge
                  · rw [List.getElem?_set_self hlt]; unfold getO at h1; rw [h1]; rfl
                  · rw [List.getElem?_eq_none (by simpa using hge), List.getElem?_eq_none hge]
                · exact getO_set_ne (Ne.symm he)
              refine ⟨M1, Mle.refl _, ⟨I.mem, ?_, ?_, ?_, ?_, fun o' g h => by rw [List.length_set]; exact I.dom o' g h⟩, ?_, hdead⟩
              · rw [hset]; exact I.obj
              · rw [hset]; exact I.dis
              · rw [hset]; exact I.off
              · rw [hset]; exact I.own
              · unfold Gone; rw [hset]; exact hgone
        obtain ⟨M', h1, h2, h3, h4⟩ := hstep
        refine ⟨M', h1, h2, h3, ?_⟩
        by_cases hes : es = []
        · subst hes
          exact .nil _ _ _ _ (by simp)
        · obtain ⟨b, off', rfl, hcell⟩ := hrd hes
          -- this block is the object's
          have hblk : blkO G o x = some b := by
            cases x with
            | box cs => simp [hoo] at hr
            | iter s p => simp [hoo] at hr
            | mp _ _ => simp [hoo] at hr
            | mit _ _ _ => simp [hoo] at hr
            | row k' v' es' =>
              simp only [hoo] at hr
              split at hr
              · rename_i hc
                obtain ⟨rfl, hc⟩ := hc
                have hpos : 0 < es.length := List.length_pos_iff.2 hes
                obtain ⟨b', st', hb', hab⟩ := ha (by omega)
                cases hab
                simp [blkO, hg, hvv, hb']
              · simp at hr
          have hMb := h4 b hblk
          have hcellM : ∀ off'' v, w.cell? ⟨b, off'', none⟩ = some v → M'.cell b off'' = some v := by
            intro off'' v hv
            unfold Mem.cell
            rw [hMb]
            unfold World.cell? at hv
            cases hh : w.heap[b]? with
            | none => simp [hh] at hv
            | some y => cases y <;> simp_all
          have hM01 := hM1.trans h1
          refine .sl k false es b off' _ (fun i j => (w.cell? ⟨b, off' + i * k + j, none⟩).getD undef) (by simp) hle hk ?_ ?_
          · intro i e j t he ht
            obtain ⟨x', hx', hT⟩ := hcell i e j t he ht
            rw [hcellM _ _ hx', hx']; rfl
          · intro i e j t he ht
            obtain ⟨x', hx', hT⟩ := hcell i e j t he ht
            rw [hx']
            exact hT.mono hM01
  | agg => simp [toTr] at h
  | ref => simp [toTr] at h
  | iter => simp [toTr] at h
  | sub => simp [toTr] at h
  | el => simp [toTr] at h
  | glob => simp [toTr] at h
  | fn => simp [toTr] at h
  | tup => simp [toTr] at h
  | mp => simp [toTr] at h
  | junk => simp [toTr] at h

theorem toTrs_sound (I0 : Inv F n0 w M G ob) : ∀ {vs : List V} {rs : List Value} {M1 : Mem} {ob1 : OT} {ts : List Tr} {ks : List (Nat × Option O)}, Mle M M1 → Inv F n0 w M1 G ob1 → Gone w M1 G ob ob1 →
    (∀ j c, vs[j]? = some c → VR M G c (rs.getD j undef)) → toTrs (getO ob) vs = some (ts, ks) →
    ∃ M', Mle M1 M' ∧ Inv F n0 w M' G (upds ob1 ks) ∧ Gone w M' G ob (upds ob1 ks) ∧ ts.length = vs.length ∧ ∀ j t, ts[j]? = some t → TR M' t (rs.getD j undef) := by
  intro vs
  induction vs with
  | nil =>
    intro rs M1 ob1 ts ks h1 h2 h3 _ h
    simp only [toTrs, Option.some.injEq, Prod.mk.injEq] at h
    obtain ⟨rfl, rfl⟩ := h
    exact ⟨M1, Mle.refl _, h2, h3, rfl, fun j t ht => by simp at ht⟩
  | cons v q ih =>
    intro rs M1 ob1 ts ks h1 h2 h3 hv h
    simp only [toTrs] at h
    cases ht : toTr (getO ob) v with
    | none => simp [ht] at h
    | some p =>
      obtain ⟨t, k⟩ := p
      simp only [ht] at h
      cases hq : toTrs (getO ob) q with
      | none => simp [hq] at h
      | some p2 =>
        obtain ⟨ts', ks'⟩ := p2
        simp only [hq, Option.some.injEq, Prod.mk.injEq] at h
        obtain ⟨rfl, rfl⟩ := h
        obtain ⟨M2, a1, a2, a3, a4⟩ := toTr_sound I0 h1 h2 h3 (hv 0 v rfl) ht
        obtain ⟨M3, b1, b2, b3, b4, b5⟩ := ih (rs := rs.tail) (h1.trans a1) a2 a3 (fun j c hc => by have := hv (j + 1) c hc; cases rs with | nil => simpa using this | cons x y => simpa using this) hq
        rw [upds_append]
        refine ⟨M3, a1.trans b1, b2, b3, by simp [b4], fun j t' hj => ?_⟩
        cases j with
        | zero => simp at hj; subst hj; exact a4.mono b1
        | succ j =>
          simp at hj
          have := b5 j t' hj
          cases rs with
          | nil => simpa using this
          | cons x y => simpa using this
end
end Go.Ab
end
section
/- Slices that are made: literals, make, conversions. -/
namespace Go.Ab
open Go

section
variable {P : Program} {τ : TT} {γ : GT} {F : Nat → Prop} {n0 : Nat} {w : World} {M : Mem} {G : Gh} {ob : OT}

theorem zeroT_sound (i : TI) {k : Nat} (h1 : ∀ c ∈ i.zero.cells, oneV c = true) (hz : i.zero.cells.size = k) : (zeroT i).length = k ∧ ∀ j t, (zeroT i)[j]? = some t → TR M t (i.zero.cells.getD j undef) := by
  refine ⟨by simp [zeroT, hz], fun j t ht => ?_⟩
  simp only [zeroT, List.getElem?_map, Option.map_eq_some_iff] at ht
  obtain ⟨x, hx, rfl⟩ := ht
  have : i.zero.cells.getD j undef = x := by simp at hx; simp [hx]
  rw [this]
  exact TR.const M x (h1 x (Array.mem_toList_iff.1 (List.mem_of_getElem? hx)))

theorem made_cells (i : TI) {k : Nat} (h1 : ∀ c ∈ i.zero.cells, oneV c = true) (hz : i.zero.cells.size = k) (l n : Nat) (hl : l * k ≤ n) : RowCells M (madeCells i.zero.cells n) 0 k (List.replicate l (zeroT i)) := by
  intro a e j t he ht
  obtain ⟨h1, h2⟩ := zeroT_sound (M := M) i h1 hz
  have ha : a < l := by have := (List.getElem?_eq_some_iff.1 he).1; simpa using this
  have hee : e = zeroT i := by simp [ha] at he; exact he.symm
  subst hee
  have hj : j < k := by rw [← h1]; exact (List.getElem?_eq_some_iff.1 ht).1
  have hlt : a * k + j < n := by
    have : (a + 1) * k ≤ l * k := Nat.mul_le_mul_right _ ha
    rw [Nat.add_mul, Nat.one_mul] at this
    omega
  have h3 := h2 j t ht
  have : (madeCells i.zero.cells n).getD (0 + a * k + j) undef = i.zero.cells.getD j undef := by
    have hm : (a * k + j) % k = j := by rw [Nat.mul_comm, Nat.mul_add_mod]; exact Nat.mod_eq_of_lt hj
    simp only [madeCells, Nat.zero_add]
    rw [Array.getD_eq_getD_getElem?, Array.getElem?_map, Array.getElem?_range, if_pos hlt]
    simp only [Option.map_some, Option.getD_some, hz, hm]
    rw [Array.getD_eq_getD_getElem?, getElem!_pos i.zero.cells j (by omega), Array.getElem?_eq_getElem (by omega)]
    rfl
  rw [this]
  exact h3

theorem TR.wkT {t : Tr} {v : Value} (h : TR M t v) : TR M (wkT t) v := by
  unfold Ab.wkT
  split
  · cases h with
    | nil _ _ a c hc => exact .nil 1 false a c (fun h => by cases h)
    | sl _ _ _ b off c f hc hle hk hm ht => exact .nil 1 false _ c (fun h => by cases h)
  · exact h
theorem made_cellsW (i : TI) {k : Nat} {arr : Array Value} {n : Nat} (h : RowCells M arr 0 k (List.replicate n (zeroT i))) : RowCells M arr 0 k (List.replicate n (zeroTw i)) := by
  intro a e j t he ht
  have ha : a < n := by have := (List.getElem?_eq_some_iff.1 he).1; simpa using this
  have hee : e = zeroTw i := by simp [ha] at he; exact he.symm
  subst hee
  unfold zeroTw at ht
  rw [List.getElem?_map, Option.map_eq_some_iff] at ht
  obtain ⟨t0, h0, rfl⟩ := ht
  exact (h a (zeroT i) j t0 (by simp [ha]) h0).wkT
theorem make_sound {T : TypeId} (A : Agree P τ) (I : Inv F n0 w M G ob) {nb : Nat} (N : Nb G ob nb) (hn : n0 ≤ w.heap.size) {l c : V} {rl rc : Value} (hl : VR M G l rl) (hc : VR M G c rc) {k : K3} (h : opMake τ nb T l c = some k) :
    OpM P F n0 w M G ob nb k (Instr.makeSlice T rl rc) := by
  unfold opMake at h
  split at h
  · rename_i i kl a kc b hi hla hcb
    have := litInt_sound hl hla
    subst this
    have := litInt_sound hc hcb
    subst this
    split at h
    · rename_i hcnd
      obtain ⟨h0, h1, h2, h3⟩ := hcnd
      simp only [Option.some.injEq] at h
      subst h
      unfold elemT at hi
      split at hi
      · rename_i si hT
        split at hi
        · rename_i e hd
          have ht := (A.ty T si hT).1
          rw [hd] at ht
          obtain ⟨_, inf, g1, g2, g3, g4, g5⟩ := A.ty e i hi
          have hbound : (inf.bytes : Int) * b ≤ 281474976710656 := by rw [g3, Int.mul_comm]; omega
          have h63 : b ≤ 9223372036854775807 := by
            have : b * 1 ≤ b * (i.bytes : Int) := Int.mul_le_mul_of_nonneg_left (by omega) (by omega)
            omega
          have hr := run_make (P := P) w T e inf i.zero ht g1 g4 kl kc a b h0 h1 hbound h63
          rw [g2] at hr
          refine newrow I N hn e i.size a.toNat b.toNat (List.replicate a.toNat (zeroTw i)) _ _ rfl (FrS.push hn _) (by simp) (by rw [size_madeCells]; exact Nat.le_refl _) (by omega) (fun x hx => ?_) (made_cellsW i (made_cells i (A.one e i hi) g5 _ _ ?_)) _ hr
          · rw [List.eq_of_mem_replicate hx, zeroTw, List.length_map]; exact (zeroT_sound (M := M) i (A.one e i hi) g5).1
          · exact Nat.mul_le_mul_right _ (by omega)
        · simp at hi
      · simp at hi
    · simp at h
  · simp at h

theorem fold_cells (f : List Value) : ∀ (off s : Nat) (cs : Array Value) (idx : Nat), off + s + f.length ≤ cs.size →
    ((f.zipIdx s).foldl (fun cs (c, j) => cs.setIfInBounds (off + j) c) cs).size = cs.size ∧
    ((f.zipIdx s).foldl (fun cs (c, j) => cs.setIfInBounds (off + j) c) cs).getD idx undef = if off + s ≤ idx ∧ idx < off + s + f.length then f.getD (idx - (off + s)) undef else cs.getD idx undef := by
  induction f with
  | nil => intro off s cs idx _; simp; intro h1 h2; omega
  | cons v r ih =>
    intro off s cs idx hle
    simp only [List.zipIdx_cons, List.foldl_cons, List.length_cons] at *
    obtain ⟨h1, h2⟩ := ih off (s + 1) (cs.setIfInBounds (off + s) v) idx (by simp; omega)
    refine ⟨by rw [h1]; simp, ?_⟩
    rw [h2]
    by_cases hi : idx = off + s
    · subst hi
      rw [if_neg (by omega), if_pos (by omega)]
      simp [Array.getD_eq_getD_getElem?, show off + s < cs.size by omega]
    · by_cases hin : off + s + 1 ≤ idx ∧ idx < off + s + 1 + r.length
      · rw [if_pos (by omega), if_pos (by omega)]
        rw [show idx - (off + s) = (idx - (off + (s + 1))) + 1 by omega, List.getD_cons_succ]
      · rw [if_neg (by omega), if_neg (by omega)]
        simp [Array.getD_eq_getD_getElem?, Array.getElem?_setIfInBounds_ne (Ne.symm hi)]

theorem fillE_sound (I0 : Inv F n0 w M G ob) {k : Nat} : ∀ {ps : List (Nat × V)} {rs : List (Nat × Value)} {M1 : Mem} {ob1 : OT} {es0 es : List (List Tr)} {cells : Array Value} {ks0 ks : List (Nat × Option O)}, Mle M M1 → Inv F n0 w M1 G ob1 → Gone w M1 G ob ob1 →
    ps.length = rs.length → (∀ (j : Nat) (p : Nat × V), ps[j]? = some p → ∃ r, rs[j]? = some (p.1, r) ∧ VR M G p.2 r) →
    cells.size = es0.length * k → (∀ e ∈ es0, e.length = k) → RowCells M1 cells 0 k es0 → fillE (getO ob) k ps es0 ks0 = some (es, ks) →
    ∃ M' cells' kk, ks = ks0 ++ kk ∧ Mle M1 M' ∧ Inv F n0 w M' G (upds ob1 kk) ∧ es.length = es0.length ∧ Instr.fill (fun i => some (i * k, k)) cells rs = some cells' ∧ cells'.size = cells.size ∧ (∀ e ∈ es, e.length = k) ∧ RowCells M' cells' 0 k es := by
  intro ps
  induction ps with
  | nil =>
    intro rs M1 ob1 es0 es cells ks0 ks h1 h2 h3 hlen _ hcs hk hrow h
    have : rs = [] := List.length_eq_zero_iff.1 hlen.symm
    subst this
    simp only [fillE, Option.some.injEq, Prod.mk.injEq] at h
    obtain ⟨rfl, rfl⟩ := h
    exact ⟨M1, cells, [], by simp, Mle.refl _, h2, rfl, rfl, rfl, hk, hrow⟩
  | cons p q ih =>
    intro rs M1 ob1 es0 es cells ks0 ks h1 h2 h3 hlen hps hcs hk hrow h
    cases rs with
    | nil => simp at hlen
    | cons rp rs =>
      obtain ⟨j, v⟩ := p
      obtain ⟨r, hr0, hv⟩ := hps 0 (j, v) rfl
      simp only [List.getElem?_cons_zero, Option.some.injEq] at hr0
      subst hr0
      simp only [fillE] at h
      split at h
      · rename_i hc
        obtain ⟨hc1, hc2, hone⟩ := hc
        cases ht : toTrs (getO ob) v.cells with
        | none => simp [ht] at h
        | some pt =>
          obtain ⟨ts, kt⟩ := pt
          simp only [ht] at h
          obtain ⟨hcl, hcv, _⟩ := VR.cells I0 hv hone
          obtain ⟨M2, a1, a2, a3, a4, a5⟩ := toTrs_sound I0 (rs := r.cells.toList) h1 h2 h3 (fun j c hj => by simpa using hcv j c hj) ht
          replace a5 : ∀ j t, (ts.map wkT)[j]? = some t → TR M2 t (r.cells.toList.getD j undef) := fun j t ht => by
            rw [List.getElem?_map, Option.map_eq_some_iff] at ht
            obtain ⟨t0, h0, rfl⟩ := ht
            exact (a5 j t0 h0).wkT
          rw [← List.length_map (f := wkT)] at a4
          generalize ts.map wkT = ts at a4 a5 h
          have hrs : r.cells.size = k := by rw [← hc1]; exact hcl.symm
          have hjk : j * k + k ≤ es0.length * k := by have : (j + 1) * k ≤ es0.length * k := Nat.mul_le_mul_right _ hc2; rw [Nat.add_mul, Nat.one_mul] at this; exact this
          let cells2 := (r.cells.toList.zipIdx 0).foldl (fun cs (c, i) => cs.setIfInBounds (j * k + i) c) cells
          have hfold := fun idx => fold_cells r.cells.toList (j * k) 0 cells idx (by simp [hrs]; omega)
          have hsz2 : cells2.size = cells.size := (hfold 0).1
          have hrow2 : RowCells M2 cells2 0 k (es0.set j ts) := by
            intro i e jj t he ht'
            have hg := (hfold (0 + i * k + jj)).2
            have hee : e.length = k := by
              rcases List.mem_or_eq_of_mem_set (List.mem_of_getElem? he) with hm | hm
              · exact hk e hm
              · rw [hm, a4, hc1]
            have hjj : jj < k := by rw [← hee]; exact (List.getElem?_eq_some_iff.1 ht').1
            by_cases hij : i = j
            · subst hij
              have hi : i < es0.length := hc2
              have hets : e = ts := by rw [List.getElem?_set_self hi] at he; exact (Option.some.inj he).symm
              subst hets
              have hv2 := a5 jj t ht'
              have : cells2.getD (0 + i * k + jj) undef = r.cells.toList.getD jj undef := by
                show _ = _
                rw [show cells2.getD (0 + i * k + jj) undef = _ from hg, if_pos (by simp [hrs]; omega)]
                congr 1
                omega
              rw [this]; exact hv2
            · rw [List.getElem?_set_ne (Ne.symm hij)] at he
              have hold := hrow i e jj t he ht'
              have : cells2.getD (0 + i * k + jj) undef = cells.getD (0 + i * k + jj) undef := by
                rw [show cells2.getD (0 + i * k + jj) undef = _ from hg, if_neg]
                intro ⟨g1, g2⟩
                simp [hrs] at g2
                rcases Nat.lt_or_gt_of_ne hij with hlt | hgt
                · have : (i + 1) * k ≤ j * k := Nat.mul_le_mul_right _ hlt
                  rw [Nat.add_mul, Nat.one_mul] at this; omega
                · have : (j + 1) * k ≤ i * k := Nat.mul_le_mul_right _ hgt
                  rw [Nat.add_mul, Nat.one_mul] at this; omega
              rw [this]; exact hold.mono a1
          have hk2 : ∀ e ∈ es0.set j ts, e.length = k := by
            intro e he
            rcases List.mem_or_eq_of_mem_set he with hm | hm
            · exact hk e hm
            · rw [hm, a4, hc1]
          obtain ⟨M3, cells3, kk, e1, b1, b2, b3, b4, b5, b6, b7⟩ := ih (rs := rs) (cells := cells2) (h1.trans a1) a2 a3 (by simpa using hlen) (fun i p hp => by simpa using hps (i + 1) p hp)
            (by rw [hsz2, hcs]; simp) hk2 hrow2 h
          refine ⟨M3, cells3, kt ++ kk, by rw [e1, List.append_assoc], a1.trans b1, by rw [upds_append]; exact b2, by rw [b3]; simp, ?_, by rw [b5, hsz2], b6, b7⟩
          simp only [Instr.fill]
          rw [if_neg (by simp [hrs, hcs]; omega)]
          rw [← Array.foldl_toList, Array.toList_zipIdx]
          exact b4
      · simp at h

theorem elemT_sound (A : Agree P τ) {T : TypeId} {i : TI} (h : elemT τ T = some i) : ∃ si e, τ T = some si ∧ si.d = .slice e ∧ τ e = some i ∧ P.underlying T = some (.slice e) := by
  unfold elemT at h
  split at h
  · rename_i si hT
    split at h
    · rename_i e hd
      have ht := (A.ty T si hT).1
      rw [hd] at ht
      exact ⟨si, e, hT, hd, h, ht⟩
    · simp at h
  · simp at h

theorem OpM.after {nb : Nat} {M1 : Mem} {ks : List (Nat × Option O)} {v : V} {x : O} {s : Sem Value} (hM : Mle M M1) (h : OpM P F n0 w M1 G (upds ob ks) nb (v, [], some x) s) : OpM P F n0 w M G ob nb (v, ks, some x) s := by
  obtain ⟨r, w', M', G', h1, h2, h3, h4, h5, h6, h7⟩ := h
  exact ⟨r, w', M', G', h1, hM.trans h2, h3, h4, h5, h6, fun o hl hg hne => h7 o (by rw [upds_length]; exact hl) hg hne⟩

theorem buildSlice_sound {T : TypeId} (A : Agree P τ) (I : Inv F n0 w M G ob) {nb : Nat} (N : Nb G ob nb) (hn : n0 ≤ w.heap.size) {len : Nat} {ps : List (Nat × V)} {rs : Array (Nat × Value)}
    (hlen : ps.length = rs.size) (hps : ∀ (j : Nat) (p : Nat × V), ps[j]? = some p → ∃ r, rs[j]? = some (p.1, r) ∧ VR M G p.2 r) {k : K3} (h : opBuildSlice τ (getO ob) nb T len ps = some k) :
    OpM P F n0 w M G ob nb k (Instr.buildSlice T len rs) := by
  unfold opBuildSlice at h
  split at h
  · rename_i i hi
    split at h
    · rename_i hsz
      split at h
      · rename_i es ks hf
        simp only [Option.some.injEq] at h
        subst h
        obtain ⟨si, e, hT, hd, he, ht⟩ := elemT_sound A hi
        have hz := zero_size A he
        have hrep : ∀ x ∈ List.replicate len (zeroT i), x.length = i.size := fun x hx => by rw [List.eq_of_mem_replicate hx]; exact (zeroT_sound (M := M) i (A.one e i he) hz).1
        obtain ⟨M', cells', kk, e1, b1, b2, b3, b4, b5, b6, b7⟩ := fillE_sound I (rs := rs.toList) (cells := madeCells i.zero.cells (len * i.size)) (Mle.refl M) I (fun o x h => .inl h) (by simpa using hlen) (by simpa using hps)
          (by rw [size_madeCells]; simp) hrep (made_cells i (A.one e i he) hz len _ (Nat.le_refl _)) hf
        simp only [List.nil_append] at e1
        subst e1
        have hl : es.length = len := by rw [b3]; simp
        refine OpM.after b1 (newrow b2 ⟨N.g, by rw [upds_length]; exact N.lt⟩ hn e i.size len len es cells' { w with heap := w.heap.push (.cells cells' e) } rfl (FrS.push hn _) hl (by rw [b5, size_madeCells]; exact Nat.le_refl _) (Nat.le_refl _) b6 b7 _ ?_)
        have hnot : ¬ (len * i.size > 2 ^ 24) := by omega
        by_cases h0 : len * i.size = 0
        · have hm : madeCells i.zero.cells (len * i.size) = #[] := by rw [h0]; simp [madeCells, Array.range_zero']
          rw [hm] at b4
          simp [Instr.buildSlice, run_und A w hT, hd, run_size A w he, h0, newRow, b4, Array.range_zero']
        · have hm : madeCells i.zero.cells (len * i.size) = (Array.range (len * i.size)).map (i.zero.cells[· % i.zero.cells.size]!) := rfl
          rw [hm] at b4
          simp [Instr.buildSlice, run_und A w hT, hd, run_size A w he, h0, newRow, run_zero A w he, b4, hsz]
      · simp at h
    · simp at h
  · simp at h
end
end Go.Ab
end
section
/- append: the real runs. -/
namespace Go.Ab
open Go

section
variable {P : Program} {τ : TT} {γ : GT} {F : Nat → Prop} {n0 : Nat} {w : World} {M : Mem} {G : Gh} {ob : OT}

inductive Src (P : Program) (w : World) (i : TI) (xd : TypeDesc) (r : Value) (n : Nat) (news : Array Value) : Prop where
  | cells (hd : (∃ e, xd = .slice e) ∨ xd = .string) (hlen : ∀ w1 : World, w1.heap = w.heap → (Builtin.lenOf r).run P w1 = .ok n w1)
      (hnew : ∀ w1 : World, w1.heap = w.heap → (Builtin.firstCells i.size n r).run P w1 = .ok news w1)
  | zeros (k : IntKind) (hd : ∃ k', xd = .int k') (hr : r = .int k n) (hn : n * i.bytes ≤ 140737488355328) (hb : 0 < i.bytes) (hnew : news = Builtin.zeroCells i.zero.cells n)

theorem zeroCells_none (z : Array Value) (n : Nat) (h : n * z.size = 0) : Builtin.zeroCells z n = #[] := by
  simp [Builtin.zeroCells, h, Array.range_zero']

theorem append_grow {sT xT e : TypeId} {si xi i : TI} (A : Agree P τ) (hT : τ sT = some si) (hd : si.d = .slice e) (he : τ e = some i) (hxT : τ xT = some xi) {r : Value} {n : Nat} {news olds : Array Value} (S : Src P w i xi.d r n news)
    {base : Option Addr} {sLen sCap : Nat} (hold : ∀ w1 : World, w1.heap = w.heap → (Builtin.firstCells i.size sLen (.slice base sLen sCap)).run P w1 = .ok olds w1)
    (hg : sCap < sLen + n) (hfit : (sLen + n) * i.bytes ≤ 140737488355328) (hb0 : 0 < i.bytes) (ty : TypeId) :
    (Builtin.append_ #[sT, xT] ty #[.slice base sLen sCap, r]).run P w =
      .ok (.slice (some ⟨w.heap.size, 0, none⟩) (sLen + n) (grownCap w (sLen + n) sCap e)) (w.drew.alloc (.cells (olds ++ news ++ Builtin.zeroCells i.zero.cells (grownCap w (sLen + n) sCap e - (sLen + n))) e)) := by
  obtain ⟨_, inf, g1, g2, g3, g4, g5⟩ := A.ty e i he
  have hle : sLen + n ≤ 140737488355328 := Nat.le_trans (Nat.le_mul_of_pos_right _ hb0) hfit
  have hn : ¬ (sLen + n ≤ sCap) := by omega
  have h63' : ¬ (9223372036854775807 < ((sLen : Int) + (n : Int))) := by omega
  have hgf := growslice_fits (bytes := i.bytes) hg hfit
  have h48' : ¬ (281474976710656 < Builtin.nextslicecap (sLen + n) sCap * i.bytes) := by omega
  have hfo := hold w.drew rfl
  cases S with
  | cells hd' hlen hnew =>
    have hl0 := hlen w rfl
    have hnw := hnew w.drew rfl
    rcases hd' with ⟨e2, hx⟩ | hx <;>
    simp [Builtin.append_, run_und A _ hT, run_und A _ hxT, hd, run_size A _ he, hx, hl0, hn, h63', typeInfo, g1, g3, h48', Question.forced, hfo, hnw, newRow, run_zero A _ he, grownCap]
  | zeros k hd' hr hnb hb hnew =>
    subst hr
    obtain ⟨kx, hx⟩ := hd'
    have hwr : IntKind.i64.wrap (n : Int) = n := by rw [IntKind.wrap_i64]; omega
    have hneg : ¬ ((n : Int) < 0) := by omega
    have hnb' : ¬ ((281474976710656 : Int) < (n : Int) * (i.bytes : Int)) := by
      have : ((n * i.bytes : Nat) : Int) ≤ 140737488355328 := by omega
      rw [Int.natCast_mul] at this; omega
    by_cases h0 : n * i.size = 0
    · have hz : news = #[] := by rw [hnew]; exact zeroCells_none _ _ (by rw [g5]; exact h0)
      subst hz
      simp [Builtin.append_, run_und A _ hT, run_und A _ hxT, hd, run_size A _ he, hx, asInt, asIntOf, hwr, hneg, hnb', hn, h63', typeInfo, g1, g3, h48', Question.forced, hfo, newRow, run_zero A _ he, grownCap, h0]
    · subst hnew
      simp [Builtin.append_, run_und A _ hT, run_und A _ hxT, hd, run_size A _ he, hx, asInt, asIntOf, hwr, hneg, hnb', hn, h63', typeInfo, g1, g3, h48', Question.forced, hfo, newRow, run_zero A _ he, grownCap, h0]

theorem append_room {sT xT e : TypeId} {si xi i : TI} (A : Agree P τ) (hT : τ sT = some si) (hd : si.d = .slice e) (he : τ e = some i) (hxT : τ xT = some xi) {r : Value} {n : Nat} {news : Array Value} (S : Src P w i xi.d r n news)
    {base : Option Addr} {sLen sCap : Nat} (hg : sLen + n ≤ sCap) (ty : TypeId) {w' : World} (hst : (match base with | some a => storeCells (a.add (sLen * i.size)) news.toList | none => pure ()).run P w = .ok () w') :
    (Builtin.append_ #[sT, xT] ty #[.slice base sLen sCap, r]).run P w = .ok (.slice base (sLen + n) sCap) w' := by
  obtain ⟨_, inf, g1, g2, g3, g4, g5⟩ := A.ty e i he
  cases S with
  | cells hd' hlen hnew =>
    have hl0 := hlen w rfl
    have hnw := hnew w rfl
    cases base with
    | none =>
      simp only [Sem.run_pure, Result.ok.injEq, true_and] at hst
      subst hst
      rcases hd' with ⟨e2, hx⟩ | hx <;>
      simp [Builtin.append_, run_und A _ hT, run_und A _ hxT, hd, run_size A _ he, hx, hl0, hg, hnw]
    | some a =>
      simp only [] at hst
      rcases hd' with ⟨e2, hx⟩ | hx <;>
      simp [Builtin.append_, run_und A _ hT, run_und A _ hxT, hd, run_size A _ he, hx, hl0, hg, hnw, hst]
  | zeros k hd' hr hnb hb hnew =>
    subst hr
    have hn63 : n ≤ 140737488355328 := Nat.le_trans (Nat.le_mul_of_pos_right _ hb) hnb
    obtain ⟨kx, hx⟩ := hd'
    have hwr : IntKind.i64.wrap (n : Int) = n := by rw [IntKind.wrap_i64]; omega
    have hneg : ¬ ((n : Int) < 0) := by omega
    have hnb' : ¬ ((281474976710656 : Int) < (n : Int) * (i.bytes : Int)) := by
      have : ((n * i.bytes : Nat) : Int) ≤ 140737488355328 := by omega
      rw [Int.natCast_mul] at this; omega
    by_cases h0 : n * i.size = 0
    · have hz : news = #[] := by rw [hnew]; exact zeroCells_none _ _ (by rw [g5]; exact h0)
      subst hz
      cases base with
      | none =>
        simp only [Sem.run_pure, Result.ok.injEq, true_and] at hst
        subst hst
        simp [Builtin.append_, run_und A _ hT, run_und A _ hxT, hd, run_size A _ he, hx, asInt, asIntOf, hwr, hneg, hnb', hg, h0, typeInfo, g1, g3]
      | some a =>
        have hst2 : w = w' := by simpa [storeCells] using hst
        subst hst2
        simp [Builtin.append_, run_und A _ hT, run_und A _ hxT, hd, run_size A _ he, hx, asInt, asIntOf, hwr, hneg, hnb', hg, h0, storeCells, typeInfo, g1, g3]
    · subst hnew
      cases base with
      | none =>
        simp only [Sem.run_pure, Result.ok.injEq, true_and] at hst
        subst hst
        simp [Builtin.append_, run_und A _ hT, run_und A _ hxT, hd, run_size A _ he, hx, asInt, asIntOf, hwr, hneg, hnb', hg, h0, run_zero A _ he, typeInfo, g1, g3]
      | some a =>
        simp only [] at hst
        simp [Builtin.append_, run_und A _ hT, run_und A _ hxT, hd, run_size A _ he, hx, asInt, asIntOf, hwr, hneg, hnb', hg, h0, hst, run_zero A _ he, typeInfo, g1, g3]
end
end Go.Ab
end
section
/- append, abstractly. -/
namespace Go.Ab
open Go

section
variable {P : Program} {τ : TT} {γ : GT} {F : Nat → Prop} {n0 : Nat} {w : World} {M : Mem} {G : Gh} {ob : OT}

theorem TR.one {t : Tr} {v : Value} (h : TR M t v) : v.oneCell' = true := by
  cases h with
  | lit v h1 => exact oneV_cell h1
  | nil => rfl
  | sl => rfl

theorem cell_heap {w w1 : World} (h : w1.heap = w.heap) (a : Addr) : w1.cell? a = w.cell? a := by simp [World.cell?, h]

theorem reads_cells {k : Nat} {es : List (List Tr)} {a : Option Addr} (hk : ∀ e ∈ es, e.length = k) (hrd : Reads w M k es a) {size : Nat} (hsz : k = size ∨ es.length = 0) (c : Nat) :
    ∃ news : Array Value, news.size = es.length * size ∧ RowCells M news 0 size es ∧ (∀ x ∈ news, x.oneCell' = true) ∧
      ∀ w1 : World, w1.heap = w.heap → (Builtin.firstCells size es.length (.slice a es.length c)).run P w1 = .ok news w1 := by
  by_cases hes : es = []
  · subst hes
    refine ⟨#[], by simp, fun i e j t he => by simp at he, by simp, fun w1 _ => ?_⟩
    cases a <;> simp [Builtin.firstCells, loadCells, loadCellsFrom]
  · obtain ⟨b, o, rfl, hc⟩ := hrd hes
    have hks : k = size := by rcases hsz with h | h; exact h; exact absurd (List.length_eq_zero_iff.1 h) hes
    subst hks
    have hex : ∀ idx, ∃ x, idx < es.length * k → w.cell? ⟨b, o + idx, none⟩ = some x ∧ x.oneCell' = true ∧ ∀ i e j t, idx = i * k + j → es[i]? = some e → e[j]? = some t → TR M t x := by
      intro idx
      by_cases hi : idx < es.length * k
      · have hkp : 0 < k := by rcases Nat.eq_zero_or_pos k with h | h; subst h; simp at hi; exact h
        have hq : idx / k < es.length := Nat.div_lt_of_lt_mul (by rw [Nat.mul_comm]; exact hi)
        obtain ⟨e0, he⟩ : ∃ e0, es[idx / k]? = some e0 := ⟨_, List.getElem?_eq_getElem hq⟩
        have hlen : e0.length = k := hk _ (List.mem_of_getElem? he)
        obtain ⟨t0, ht0⟩ : ∃ t0, e0[idx % k]? = some t0 := ⟨_, List.getElem?_eq_getElem (by rw [hlen]; exact Nat.mod_lt _ hkp)⟩
        obtain ⟨x, hx, hT⟩ := hc (idx / k) _ (idx % k) _ he ht0
        have hdm : idx / k * k + idx % k = idx := Nat.div_add_mod' idx k
        refine ⟨x, fun _ => ⟨by rw [show o + idx = o + idx / k * k + idx % k by omega]; exact hx, hT.one, fun i e j t h1 h2 h3 => ?_⟩⟩
        have hj : j < k := by rw [← hk e (List.mem_of_getElem? h2)]; exact (List.getElem?_eq_some_iff.1 h3).1
        have hii : idx / k = i := by rw [h1, Nat.mul_comm, Nat.mul_add_div hkp, Nat.div_eq_of_lt hj, Nat.add_zero]
        have hjj : idx % k = j := by rw [h1, Nat.mul_comm, Nat.mul_add_mod, Nat.mod_eq_of_lt hj]
        rw [hii, h2] at he
        cases he
        rw [hjj, h3] at ht0
        cases ht0
        exact hT
      · exact ⟨undef, fun h => absurd h hi⟩
    have ⟨f, hf⟩ := Classical.axiomOfChoice hex
    refine ⟨((List.range (es.length * k)).map f).toArray, by simp, ?_, ?_, fun w1 hw1 => ?_⟩
    · intro i e j t he ht
      have hj : j < k := by rw [← hk e (List.mem_of_getElem? he)]; exact (List.getElem?_eq_some_iff.1 ht).1
      have hi : i < es.length := (List.getElem?_eq_some_iff.1 he).1
      have hlt : i * k + j < es.length * k := by have : (i + 1) * k ≤ es.length * k := Nat.mul_le_mul_right _ hi; rw [Nat.add_mul, Nat.one_mul] at this; omega
      have := (hf _ hlt).2.2 i e j t rfl he ht
      simpa [hlt] using this
    · intro x hx
      simp only [List.mem_toArray, List.mem_map, List.mem_range] at hx
      obtain ⟨idx, hidx, rfl⟩ := hx
      exact (hf idx hidx).2.1
    · simp only [Builtin.firstCells]
      exact run_loadCells w1 _ _ f (fun j hj => by rw [cell_heap hw1, add_none]; exact (hf j hj).1)

theorem getD_map_bytes (s : ByteArray) (i : Nat) (h : i < s.size) : ((s.data.map fun b => Value.int .u8 b.toNat) : Array Value).getD i undef = .int .u8 (s.data[i]'h).toNat := by
  have h' : i < s.data.size := h
  rw [Array.getD_eq_getD_getElem?, Array.getElem?_map, Array.getElem?_eq_getElem h']
  rfl

theorem bytes_cells (M : Mem) (s : ByteArray) : (s.data.map fun b => Value.int .u8 b.toNat : Array Value).size = s.size ∧ RowCells M (s.data.map fun b => Value.int .u8 b.toNat) 0 1 (bytesE s) ∧ (∀ e ∈ bytesE s, e.length = 1) ∧ (bytesE s).length = s.size := by
  refine ⟨by simp, ?_, ?_, by simp [bytesE]⟩
  · intro i e j t he ht
    simp only [bytesE, List.getElem?_map, Option.map_eq_some_iff] at he
    obtain ⟨b, hb, rfl⟩ := he
    have hj : j = 0 := by have := (List.getElem?_eq_some_iff.1 ht).1; simp at this; exact this
    subst hj
    simp at ht
    subst ht
    obtain ⟨hlt, hbb⟩ := List.getElem?_eq_some_iff.1 hb
    have hlt' : i < s.size := by simpa using hlt
    rw [show 0 + i * 1 + 0 = i by omega, getD_map_bytes s i hlt']
    have : s.data[i]'hlt' = b := by rw [← hbb]; simp
    rw [this]
    exact .lit _ rfl
  · intro e he
    simp only [bytesE, List.mem_map] at he
    obtain ⟨b, _, rfl⟩ := he
    rfl

theorem src_sound {xT : TypeId} (I : Inv F n0 w M G ob) {i : TI} (hz : i.zero.cells.size = i.size) (hone : ∀ c ∈ i.zero.cells, oneV c = true) {x : V} {r : Value} (hx : VR M G x r) {ys : List (List Tr)} (h : srcE τ (getO ob) xT i x = some ys) :
    ∃ xi news, τ xT = some xi ∧ Src P w i xi.d r ys.length news ∧ news.size = ys.length * i.size ∧ RowCells M news 0 i.size ys ∧ (∀ e ∈ ys, e.length = i.size) ∧ (∀ x ∈ news, x.oneCell' = true) := by
  unfold srcE at h
  split at h
  · rename_i xi hT
    split at h
    · rename_i kx hd
      split at h
      · rename_i kk n hl
        split at h
        · rename_i hc
          simp only [Option.some.injEq] at h
          subst h
          have := litInt_sound hx hl
          subst this
          have hnn : ((n.toNat : Nat) : Int) = n := Int.toNat_of_nonneg hc.1
          refine ⟨xi, Builtin.zeroCells i.zero.cells n.toNat, hT, ?_, by rw [size_zeroCells, hz]; simp, ?_, ?_, ?_⟩
          · refine .zeros kk ⟨kx, hd⟩ (by simp [hnn]) ?_ hc.2.2 (by simp)
            have h2 : ((n.toNat * i.bytes : Nat) : Int) ≤ 140737488355328 := by rw [Int.natCast_mul, hnn]; exact hc.2.1
            rw [List.length_replicate]
            omega
          · have := made_cells (M := M) i hone hz n.toNat (n.toNat * i.size) (Nat.le_refl _)
            have e : madeCells i.zero.cells (n.toNat * i.size) = Builtin.zeroCells i.zero.cells n.toNat := by simp [madeCells, Builtin.zeroCells, hz]
            rw [e] at this
            exact this
          · intro e he
            rw [List.eq_of_mem_replicate he]
            exact (zeroT_sound (M := M) i hone hz).1
          · intro v hv
            simp only [Builtin.zeroCells, Array.mem_map] at hv
            obtain ⟨q, hq, rfl⟩ := hv
            simp at hq
            have hp : 0 < i.zero.cells.size := by
              rcases Nat.eq_zero_or_pos i.zero.cells.size with h0 | h0
              · rw [h0] at hq; simp at hq
              · exact h0
            have hm := Nat.mod_lt q hp
            rw [getElem!_pos i.zero.cells _ hm]
            exact oneV_cell (hone _ (Array.getElem_mem hm))
        · simp at h
      · simp at h
    · rename_i hd
      split at h
      · rename_i s hl
        split at h
        · rename_i h1
          simp only [Option.some.injEq] at h
          subst h
          have := litStr_sound hx hl
          subst this
          obtain ⟨a1, a2, a3, a4⟩ := bytes_cells M s
          refine ⟨xi, s.data.map fun b => Value.int .u8 b.toNat, hT, ?_, by rw [a1, a4, h1, Nat.mul_one], by rw [h1]; exact a2, by rw [h1]; exact a3, ?_⟩
          · refine .cells (.inr hd) (fun w1 _ => by simp [Builtin.lenOf, a4]) (fun w1 _ => ?_)
            simp only [Builtin.firstCells, a4]
            congr 1
            have hs : (s.extract 0 s.size) = s := by
              apply ByteArray.ext
              simp
            rw [hs]
            rfl
          · intro v hv
            simp only [Array.mem_map] at hv
            obtain ⟨b, _, rfl⟩ := hv
            rfl
        · simp at h
      · simp at h
    · rename_i e hd
      obtain ⟨a, c, rfl, hle, _, hkk, hrd⟩ := rdK_sound I hx h
      obtain ⟨news, b1, b2, b3, b4⟩ := reads_cells (P := P) hkk hrd (.inl rfl) c
      exact ⟨xi, news, hT, .cells (.inl ⟨e, hd⟩) (fun w1 _ => by simp [Builtin.lenOf]) b4, b1, b2, hkk, b3⟩
    · simp at h
  · simp at h
end
end Go.Ab
end
section
/- append, abstractly. -/
namespace Go.Ab
open Go

section
variable {P : Program} {τ : TT} {γ : GT} {F : Nat → Prop} {n0 : Nat} {w : World} {M : Mem} {G : Gh} {ob : OT}

theorem rowCells_append {k : Nat} {es ys : List (List Tr)} {olds news rest : Array Value} (h1 : RowCells M olds 0 k es) (s1 : olds.size = es.length * k) (k1 : ∀ e ∈ es, e.length = k)
    (h2 : RowCells M news 0 k ys) (s2 : news.size = ys.length * k) (k2 : ∀ e ∈ ys, e.length = k) : RowCells M (olds ++ news ++ rest) 0 k (es ++ ys) := by
  intro i e j t he ht
  rcases Nat.lt_or_ge i es.length with hi | hi
  · rw [List.getElem?_append_left hi] at he
    have hj : j < k := by rw [← k1 e (List.mem_of_getElem? he)]; exact (List.getElem?_eq_some_iff.1 ht).1
    have hlt : i * k + j < olds.size := by have : (i + 1) * k ≤ es.length * k := Nat.mul_le_mul_right _ hi; rw [Nat.add_mul, Nat.one_mul] at this; omega
    have := h1 i e j t he ht
    rw [Array.getD_eq_getD_getElem?] at this ⊢
    rw [Array.append_assoc, Array.getElem?_append_left (by omega)]
    exact this
  · rw [List.getElem?_append_right hi] at he
    have hj : j < k := by rw [← k2 e (List.mem_of_getElem? he)]; exact (List.getElem?_eq_some_iff.1 ht).1
    have hlt : i - es.length < ys.length := (List.getElem?_eq_some_iff.1 he).1
    have hlt2 : (i - es.length) * k + j < news.size := by have : (i - es.length + 1) * k ≤ ys.length * k := Nat.mul_le_mul_right _ hlt; rw [Nat.add_mul, Nat.one_mul] at this; omega
    have hsplit : 0 + i * k + j = olds.size + ((i - es.length) * k + j) := by
      have : i * k = es.length * k + (i - es.length) * k := by rw [← Nat.add_mul]; congr 1; omega
      omega
    have := h2 (i - es.length) e j t he ht
    rw [Array.getD_eq_getD_getElem?] at this ⊢
    rw [hsplit, Array.append_assoc, Array.getElem?_append_right (by omega), Array.getElem?_append_left (by omega)]
    rw [show olds.size + ((i - es.length) * k + j) - olds.size = 0 + (i - es.length) * k + j by omega]
    exact this

theorem Inv.ghost (I : Inv F n0 w M G ob) {nb : Nat} (N : Nb G ob nb) (k : Nat) : ∃ G', Gle G G' ∧ Inv F n0 w M G' (ob.set nb (some (.row k 0 []))) ∧ (∀ o, o ≠ nb → G' o = G o) ∧ ∀ a, VR M G' (.row nb 0 0 0) (.slice a 0 0) := by
  let ri : RI := ⟨none, 0, k⟩
  let g : GI := .row (fun v => if v = 0 then some ri else none)
  have hgle : Gle G (setG G nb g) := Gle.setG (fun g' hg => by rw [N.g] at hg; cases hg)
  refine ⟨setG G nb g, hgle, ?_, fun o h => setG_ne _ _ h, fun a => ?_⟩
  · refine I.upd (Mle.refl M) hgle (fun o' h => setG_ne G g h) (fun _ _ _ _ _ _ => rfl) I.mem (fun o' x b _ h1 h2 => I.off o' x b h1 h2)
      (.nil k 0 _ ri (setG_self _ _ _) (by simp) (fun v hv => by simp; omega) rfl rfl rfl) (fun b hb => ?_) N.lt
    simp [blkO, g, setG_self, ri] at hb
  · have := VR.row (M := M) (G := setG G nb g) nb 0 0 0 (fun v => if v = 0 then some ri else none) ri a (setG_self _ _ _) (by simp) (by simp) (fun h => by simp [ri] at h)
    simpa [ri] using this

theorem asRow_sound (I : Inv F n0 w M G ob) {s : V} {r : Value} (h : VR M G s r) : ∀ {o ver off len : Nat}, asRow s = some (o, ver, off, len) → ∀ {k : Nat} {es : List (List Tr)}, rdS (getO ob) s = some (k, es) →
    ∃ f ri a c, G o = some (.row f) ∧ f ver = some ri ∧ off + len ≤ ri.cap ∧ r = .slice a len c ∧ len ≤ c ∧ c ≤ ri.cap - off ∧ (c ≠ 0 → ∃ b st, ri.blk = some (b, st) ∧ a = some ⟨b, st + off * ri.k, none⟩) ∧
      es.length = len ∧ ∃ es0, getO ob o = some (.row k ver es0) ∧ es = (es0.drop off).take len ∧ off + len ≤ es0.length := by
  induction h with
  | row o ver off len f ri a hg hv hl ha =>
    intro o' ver' off' len' h k es hr
    simp only [asRow, Option.some.injEq, Prod.mk.injEq] at h
    obtain ⟨rfl, rfl, rfl, rfl⟩ := h
    simp only [rdS] at hr
    cases ho : getO ob o with
    | none => simp [ho] at hr
    | some x =>
      cases x with
      | box => simp [ho] at hr
      | iter => simp [ho] at hr
      | mp => simp [ho] at hr
      | mit => simp [ho] at hr
      | row k' v' es' =>
        simp only [ho] at hr
        split at hr
        · rename_i hc
          obtain ⟨rfl, hc⟩ := hc
          simp only [Option.some.injEq, Prod.mk.injEq] at hr
          obtain ⟨rfl, rfl⟩ := hr
          exact ⟨f, ri, a, ri.cap - off, hg, hv, hl, rfl, by omega, Nat.le_refl _, fun h => ha h, by simp; omega, es', rfl, rfl, hc⟩
        · simp at hr
  | sub k' v lo n full a a' n0' c0 m h hlo hm hm2 hf ha ih =>
    intro o ver off len hh k es hr
    simp only [asRow] at hh
    cases hv : asRow v with
    | none => simp [hv] at hh
    | some p =>
      obtain ⟨o2, ver2, off2, len2⟩ := p
      simp only [hv, Option.some.injEq, Prod.mk.injEq] at hh
      obtain ⟨rfl, rfl, rfl, rfl⟩ := hh
      simp only [rdS] at hr
      cases hv2 : rdS (getO ob) v with
      | none => simp [hv2] at hr
      | some q =>
        obtain ⟨k2, es2⟩ := q
        simp only [hv2] at hr
        split at hr
        · rename_i hc
          simp only [Option.some.injEq, Prod.mk.injEq] at hr
          obtain ⟨rfl, rfl⟩ := hr
          obtain ⟨f, ri, a2, c2, g1, g2, g3, g4, g5, g6, g8, g9, es0, g10, g11, g12⟩ := ih hv hv2
          simp only [Value.slice.injEq] at g4
          obtain ⟨rfl, rfl, rfl⟩ := g4
          have hrik : ri.k = k2 ∨ es2.length = 0 := by
            cases I.obj o2 _ g10 with
            | row _ _ _ f' ri' b st arr T hg' hv' hmax hk' hb hw hcap hle hee hcc => rw [g1] at hg'; cases hg'; rw [g2] at hv'; cases hv'; exact .inl hk'
            | nil => exact .inr (by rw [g11]; simp)
          refine ⟨f, ri, _, m - lo, g1, g2, by omega, rfl, by omega, by omega, fun hne => ?_, by simp; omega, es0, g10, ?_, by omega⟩
          · rw [ha (by omega)]
            obtain ⟨b, st, hb, rfl⟩ := g8 (by omega)
            refine ⟨b, st, hb, ?_⟩
            simp only [Option.map_some, add_none, Option.some.injEq, Addr.mk.injEq, and_true, true_and]
            rcases hc.2 with hk | hk
            · rcases hrik with h1 | h1
              · rw [hk, h1, Nat.add_mul]; omega
              · have : lo = 0 := by omega
                subst this; simp
            · have : lo = 0 := by omega
              subst this; simp
          · rw [g11, List.drop_take, List.take_take, List.drop_drop]
            congr 1
            omega
        · simp at hr
  | tr => intro o ver off len h; simp [asRow] at h
  | agg => intro o ver off len h; simp [asRow] at h
  | ref => intro o ver off len h; simp [asRow] at h
  | iter => intro o ver off len h; simp [asRow] at h
  | el => intro o ver off len h; simp [asRow] at h
  | glob => intro o ver off len h; simp [asRow] at h
  | fn => intro o ver off len h; simp [asRow] at h
  | tup => intro o ver off len h; simp [asRow] at h
  | mp => intro o ver off len h; simp [asRow] at h
  | junk => intro o ver off len h; simp [asRow] at h

theorem rdK_rdS {g : Nat → Option O} {k : Nat} {v : V} {es : List (List Tr)} (h : rdK g k v = some es) : ∃ k', rdS g v = some (k', es) := by
  unfold rdK at h
  split at h
  · rename_i k' es' hs
    split at h
    · simp only [Option.some.injEq] at h; subst h; exact ⟨k', hs⟩
    · simp at h
  · simp at h

def bumpG (G : Gh) (o : Nat) (f : Nat → Option RI) (ver : Nat) (ri : RI) : Gh := setG G o (.row fun v => if v = ver then some ri else f v)
theorem Gle.bump {G : Gh} {o : Nat} {f : Nat → Option RI} {ver : Nat} {ri : RI} (h : G o = some (.row f)) (hv : f ver = none) : Gle G (bumpG G o f ver ri) :=
  Gle.setG (fun g' hg => by
    rw [h] at hg
    cases hg
    intro v r hr
    have : v ≠ ver := fun e => by subst e; rw [hv] at hr; cases hr
    simp [this, hr])

theorem append_sound {sT xT : TypeId} (A : Agree P τ) (I : Inv F n0 w M G ob) {nb : Nat} (N : Nb G ob nb) (hn : n0 ≤ w.heap.size) {i : TI} (hi : elemT τ sT = some i) {s x : V} {r q : Value} (hs : VR M G s r) (hx : VR M G x q)
    {ys : List (List Tr)} (hsrc : srcE τ (getO ob) xT i x = some ys) {k : K3} (h : opAppend i (getO ob) nb s ys = some k) (ty : TypeId) :
    OpM P F n0 w M G ob nb k (Builtin.append_ #[sT, xT] ty #[r, q]) := by
  obtain ⟨si, e, hT, hd, he, ht⟩ := elemT_sound A hi
  obtain ⟨xi, news, hxT, S, n1, n2, n3, n4⟩ := src_sound (P := P) I (zero_size A he) (A.one e i he) hx hsrc
  unfold opAppend at h
  split at h
  · rename_i es hr
    split at h
    · rename_i hc
      obtain ⟨hfit, hb0⟩ := hc
      obtain ⟨a, c, hreq, hle, hful, hk, hrd⟩ := rdK_sound I hs hr
      obtain ⟨olds, o1, o2, o3, o4⟩ := reads_cells (P := P) hk hrd (.inl rfl) c
      subst hreq
      have noNews : ys.length = 0 → news = #[] := fun h0 => by apply Array.eq_empty_of_size_eq_zero; rw [n1, h0, Nat.zero_mul]
      split at h
      · rename_i hfl
        have hcl := hful hfl
        split at h
        · rename_i h0
          simp only [Option.some.injEq] at h
          subst h
          have hnn := noNews h0.1
          refine OpV.opM I ⟨s, _, rfl, append_room A hT hd he hxT S (by omega) ty (w' := w) ?_, ?_⟩
          · subst hnn; cases a <;> simp [storeCells]
          · rw [h0.1]; exact hs
        · rename_i h0
          simp only [Option.some.injEq] at h
          subst h
          by_cases hy : ys.length = 0
          · have hes : es.length = 0 := by omega
            have hnn := noNews hy
            have hesn : es = [] := List.length_eq_zero_iff.1 hes
            have hysn : ys = [] := List.length_eq_zero_iff.1 hy
            obtain ⟨G', g1, g2, g3, g4⟩ := I.ghost N i.size
            refine ⟨_, w, M, G', append_room A hT hd he hxT S (by omega) ty (w' := w) (by subst hnn; cases a <;> simp [storeCells]), Mle.refl _, g1, ?_, ?_, FrS.refl _ _ _, fun o _ hg hne => (g3 o (hne.resolve_right (by simp))).trans hg⟩
            · simp only [hes, hy, hcl, Nat.zero_add]; exact g4 a
            · simpa [newT, upds, hesn, hysn] using g2
          · have hg : c < es.length + ys.length := by omega
            have hrun := append_grow A hT hd he hxT S (o4) hg hfit hb0 ty
            have hge := grownCap_ge w (es.length + ys.length) c e
            refine newrow I N hn e i.size (es.length + ys.length) (grownCap w (es.length + ys.length) c e) (es ++ ys) (olds ++ news ++ Builtin.zeroCells i.zero.cells (grownCap w (es.length + ys.length) c e - (es.length + ys.length))) (w.drew.alloc (.cells (olds ++ news ++ Builtin.zeroCells i.zero.cells (grownCap w (es.length + ys.length) c e - (es.length + ys.length))) e)) rfl ⟨rfl, rfl, rfl, by simp, fun b hb _ => ?_⟩ (by simp) ?_ hge ?_ (rowCells_append o2 o1 hk n2 n1 n3) _ hrun
            · show (w.heap.push _)[b]? = _
              rw [Array.getElem?_push, if_neg (by omega)]
            · simp only [Array.size_append, size_zeroCells, o1, n1, zero_size A he, ← Nat.add_mul]
              exact Nat.mul_le_mul_right _ (by omega)
            · intro q hq
              rcases List.mem_append.1 hq with h | h
              · exact hk q h
              · exact n3 q h
      · split at h
        · rename_i o ver off len hrow
          split at h
          · rename_i k' v' es0 ho
            split at h
            · rename_i hcc
              obtain ⟨rfl, hend, hk'⟩ := hcc
              simp only [Option.some.injEq] at h
              subst h
              obtain ⟨k2, hr2⟩ := rdK_rdS hr
              obtain ⟨f, ri, a', c', g1, g2, g3, g4, g5, g6, g8, g9, es0', g10, g11, g12⟩ := asRow_sound I hs hrow hr2
              simp only [Value.slice.injEq] at g4
              obtain ⟨rfl, _, rfl⟩ := g4
              rw [ho] at g10
              cases g10
              subst hk'
              have hlt := getO_lt ho
              -- what is known of the object
              have hobj := I.obj o _ ho
              have hmax : ∀ v, v' < v → f v = none := by
                cases hobj with
                | row _ _ _ f' _ _ _ _ _ hg' _ hm => rw [g1] at hg'; cases hg'; exact hm
                | nil _ _ f' _ hg' _ hm => rw [g1] at hg'; cases hg'; exact hm
              have hrik : ri.k = i.size := by
                cases hobj with
                | row _ _ _ f' ri' _ _ _ _ hg' hv' _ hkk => rw [g1] at hg'; cases hg'; rw [g2] at hv'; cases hv'; exact hkk
                | nil _ _ f' ri' hg' hv' _ hkk => rw [g1] at hg'; cases hg'; rw [g2] at hv'; cases hv'; exact hkk
              by_cases hroom : es.length + ys.length ≤ c
              · by_cases hc0 : c = 0
                · -- nothing is there, and nothing comes
                  have hes : es.length = 0 := by omega
                  have hys : ys.length = 0 := by omega
                  have hnn := noNews hys
                  have hesn : es = [] := List.length_eq_zero_iff.1 hes
                  have hysn : ys = [] := List.length_eq_zero_iff.1 hys
                  have hgle : Gle G (bumpG G o f (v' + 1) ⟨none, 0, i.size⟩) := Gle.bump g1 (hmax _ (Nat.lt_succ_self _))
                  have hself : bumpG G o f (v' + 1) ⟨none, 0, i.size⟩ o = _ := setG_self _ _ _
                  refine ⟨_, w, M, bumpG G o f (v' + 1) ⟨none, 0, i.size⟩, append_room A hT hd he hxT S hroom ty (w' := w) (by subst hnn; cases a <;> simp [storeCells]), Mle.refl _, hgle, ?_, ?_, FrS.refl _ _ _, fun o' ho' hg' _ => ?_⟩
                  · have := VR.row (M := M) (G := bumpG G o f (v' + 1) ⟨none, 0, i.size⟩) o (v' + 1) 0 0 _ ⟨none, 0, i.size⟩ a hself (by simp) (by simp) (fun h => by simp at h)
                    simpa [← g9, hes, hys, hc0] using this
                  · simp only [newT, upds]
                    rw [hesn, hysn]
                    refine I.upd (Mle.refl M) hgle (fun o' h => setG_ne G _ h) (fun _ _ _ _ _ _ => rfl) I.mem (fun o' x b _ h1 h2 => I.off o' x b h1 h2)
                      (.nil _ _ _ ⟨none, 0, i.size⟩ hself (by simp) (fun v hv => ?_) rfl rfl rfl) (fun b hb => ?_) hlt
                    · exact (if_neg (by omega)).trans (hmax v (by omega))
                    · simp [blkO, hself] at hb
                  · have : o' ≠ o := fun e => by subst e; rw [g1] at hg'; cases hg'
                    show setG _ _ _ o' = none
                    rw [setG_ne _ _ this]; exact hg'
                · -- in its place
                  obtain ⟨b, st, hblk, rfl⟩ := g8 hc0
                  cases hobj with
                  | nil _ _ f' ri' hg' hv' _ hkk hbb => rw [g1] at hg'; cases hg'; rw [g2] at hv'; cases hv'; rw [hbb] at hblk; cases hblk
                  | row _ _ _ f' ri' b' st' arr T hg' hv' _ hkk hbb hw hcap hlen hee hcells =>
                    rw [g1] at hg'; cases hg'; rw [g2] at hv'; cases hv'; rw [hbb] at hblk; cases hblk
                    have hblkO : blkO G o (.row i.size v' es0) = some b := by simp [blkO, g1, g2, hbb]
                    have hMb := I.off o _ b ho hblkO
                    let ri2 : RI := ⟨some (b, st + off * i.size), c, i.size⟩
                    have hgle : Gle G (bumpG G o f (v' + 1) ri2) := Gle.bump g1 (hmax _ (Nat.lt_succ_self _))
                    have hself : bumpG G o f (v' + 1) ri2 o = _ := setG_self _ _ _
                    have hfitc : off * i.size + c * i.size ≤ ri.cap * i.size := by rw [← Nat.add_mul]; exact Nat.mul_le_mul_right _ (by omega)
                    have hroomk : es.length * i.size + ys.length * i.size ≤ c * i.size := by rw [← Nat.add_mul]; exact Nat.mul_le_mul_right _ hroom
                    have hpos : st + off * i.size + es.length * i.size + news.size ≤ arr.size := by rw [n1]; omega
                    have hst := run_storeCells_at P b (st + off * i.size + es.length * i.size) T news.toList 0 arr w hw (by simpa using hpos) (by simpa using n4)
                    simp only [Nat.add_zero, Array.length_toList] at hst
                    let arr2 : Array Value := (arr.toList.take (st + off * i.size + es.length * i.size) ++ news.toList ++ arr.toList.drop (st + off * i.size + es.length * i.size + news.size)).toArray
                    have hsz2 : arr2.size = arr.size := by simp [arr2]; omega
                    have hw2 : (w.setRow b arr2).heap[b]? = some (.cells arr2 T (0, 0)) := setRow_heap w b arr arr2 T (0, 0) hw
                    have hoth : ∀ b', b' ≠ b → (w.setRow b arr2).heap[b']? = w.heap[b']? := fun b' hb' => setRow_other w b b' arr2 hb'
                    have hrow2 : RowCells M arr2 (st + off * i.size) i.size (es ++ ys) := by
                      intro ii e j t he' ht'
                      rcases Nat.lt_or_ge ii es.length with hii | hii
                      · rw [List.getElem?_append_left hii] at he'
                        have hjj : j < i.size := by rw [← hk e (List.mem_of_getElem? he')]; exact (List.getElem?_eq_some_iff.1 ht').1
                        have hlt3 : ii * i.size + j < es.length * i.size := by have : (ii + 1) * i.size ≤ es.length * i.size := Nat.mul_le_mul_right _ hii; rw [Nat.add_mul, Nat.one_mul] at this; omega
                        have he0 : es0[off + ii]? = some e := by
                          rw [g11, List.getElem?_take_of_lt (by omega), List.getElem?_drop] at he'
                          exact he'
                        have hT0 := hcells (off + ii) e j t he0 ht'
                        have hidx : st + (off + ii) * i.size + j = st + off * i.size + ii * i.size + j := by rw [Nat.add_mul]; omega
                        rw [hidx] at hT0
                        have : arr2.getD (st + off * i.size + ii * i.size + j) undef = arr.getD (st + off * i.size + ii * i.size + j) undef := by
                          simp only [arr2, Array.getD_eq_getD_getElem?, List.getElem?_toArray]
                          rw [List.append_assoc, List.getElem?_append_left (by simp; omega), List.getElem?_take_of_lt (by omega)]
                          simp
                        rw [this]; exact hT0
                      · rw [List.getElem?_append_right hii] at he'
                        have hjj : j < i.size := by rw [← n3 e (List.mem_of_getElem? he')]; exact (List.getElem?_eq_some_iff.1 ht').1
                        have hlt3 : ii - es.length < ys.length := (List.getElem?_eq_some_iff.1 he').1
                        have hlt4 : (ii - es.length) * i.size + j < news.size := by have : (ii - es.length + 1) * i.size ≤ ys.length * i.size := Nat.mul_le_mul_right _ hlt3; rw [Nat.add_mul, Nat.one_mul] at this; omega
                        have hT0 := n2 (ii - es.length) e j t he' ht'
                        have hidx : st + off * i.size + ii * i.size + j = st + off * i.size + es.length * i.size + ((ii - es.length) * i.size + j) := by
                          have : ii * i.size = es.length * i.size + (ii - es.length) * i.size := by rw [← Nat.add_mul]; congr 1; omega
                          omega
                        have : arr2.getD (st + off * i.size + ii * i.size + j) undef = news.getD (0 + (ii - es.length) * i.size + j) undef := by
                          simp only [arr2, Array.getD_eq_getD_getElem?, List.getElem?_toArray]
                          rw [hidx, List.append_assoc, List.getElem?_append_right (by simp; omega), List.getElem?_append_left (by simp; omega)]
                          simp only [List.length_take, Array.length_toList, Array.getElem?_toList]
                          congr 2
                          omega
                        rw [this]; exact hT0
                    have hne : ∀ o' x b', o' ≠ o → getO ob o' = some x → blkO G o' x = some b' → b' ≠ b := fun o' x b' hne h1 h2 hbb' => by subst hbb'; exact hne (I.dis o' o x _ b' h1 ho h2 hblkO)
                    refine ⟨_, w.setRow b arr2, M, bumpG G o f (v' + 1) ri2, append_room A hT hd he hxT S hroom ty (w' := w.setRow b arr2) (by show (storeCells ((⟨b, st + off * ri.k, none⟩ : Addr).add (es.length * i.size)) news.toList).run P w = _; rw [add_none, hrik]; exact hst), Mle.refl _, hgle, ?_, ?_, ⟨rfl, rfl, rfl, by simp [World.setRow], fun b' hb' hF => ?_⟩, fun o' ho' hg' _ => ?_⟩
                    · have := VR.row (M := M) (G := bumpG G o f (v' + 1) ri2) o (v' + 1) 0 (es.length + ys.length) _ ri2 (some ⟨b, st + off * ri.k, none⟩) hself (by simp) (by simpa [ri2] using hroom) (fun _ => ⟨b, st + off * i.size, rfl, by simp [ri2, hrik]⟩)
                      simpa [← g9, ri2] using this
                    · simp only [newT, upds]
                      refine I.upd (Mle.refl M) hgle (fun o' h => setG_ne G _ h) (fun o' x b' hn' h1 h2 => hoth b' (hne o' x b' hn' h1 h2)) (fun b' y hy => ?_) (fun o' x b' _ h1 h2 => I.off o' x b' h1 h2)
                        (.row _ _ _ _ ri2 b (st + off * i.size) arr2 T hself (by simp) (fun v hv => ?_) rfl rfl hw2 (by simp only [ri2]; omega) (by simpa [ri2] using hroom) (fun q hq => ?_) hrow2) (fun b' hb' => ?_) hlt
                      · have : b' ≠ b := fun e => by subst e; rw [hMb] at hy; cases hy
                        rw [hoth b' this]; exact I.mem b' y hy
                      · exact (if_neg (by omega)).trans (hmax v (by omega))
                      · rcases List.mem_append.1 hq with h | h
                        · exact hk q h
                        · exact n3 q h
                      · simp [blkO, hself, ri2] at hb'
                        subst hb'
                        exact ⟨I.own o _ _ ho hblkO, hMb, fun o' x hn' h1 h2 => hne o' x _ hn' h1 h2 rfl⟩
                    · have : b' ≠ b := fun e => by subst e; rcases I.own o _ _ ho hblkO with h | h; exact hF h; omega
                      exact hoth b' this
                    · have : o' ≠ o := fun e => by subst e; rw [g1] at hg'; cases hg'
                      show setG _ _ _ o' = none
                      rw [setG_ne _ _ this]; exact hg'
              · -- in a new place
                have hg : c < es.length + ys.length := by omega
                have hrun := append_grow A hT hd he hxT S (o4) hg hfit hb0 ty
                have hge := grownCap_ge w (es.length + ys.length) c e
                let cap2 := grownCap w (es.length + ys.length) c e
                let arr2 : Array Value := olds ++ news ++ Builtin.zeroCells i.zero.cells (cap2 - (es.length + ys.length))
                have hsz2 : arr2.size = cap2 * i.size := by
                  simp only [arr2, Array.size_append, size_zeroCells, o1, n1, zero_size A he, ← Nat.add_mul]
                  congr 1
                  show es.length + ys.length + (cap2 - (es.length + ys.length)) = cap2
                  have : es.length + ys.length ≤ cap2 := hge
                  omega
                let ri2 : RI := ⟨some (w.heap.size, 0), cap2, i.size⟩
                have hgle : Gle G (bumpG G o f (v' + 1) ri2) := Gle.bump g1 (hmax _ (Nat.lt_succ_self _))
                have hself : bumpG G o f (v' + 1) ri2 o = _ := setG_self _ _ _
                have hold : ∀ b, b < w.heap.size → (w.drew.alloc (.cells arr2 e)).heap[b]? = w.heap[b]? := fun b hb => by
                  show (w.heap.push _)[b]? = _
                  rw [Array.getElem?_push, if_neg (by omega)]
                refine ⟨_, _, M, bumpG G o f (v' + 1) ri2, hrun, Mle.refl _, hgle, ?_, ?_, ⟨rfl, rfl, rfl, by simp, fun b' hb' hF => hold b' (by omega)⟩, fun o' ho' hg' _ => ?_⟩
                · have := VR.row (M := M) (G := bumpG G o f (v' + 1) ri2) o (v' + 1) 0 (es.length + ys.length) _ ri2 (some ⟨w.heap.size, 0, none⟩) hself (by simp) (by simpa [ri2] using hge) (fun _ => ⟨w.heap.size, 0, rfl, by simp [ri2]⟩)
                  simpa [← g9, ri2] using this
                · simp only [newT, upds]
                  refine I.upd (Mle.refl M) hgle (fun o' h => setG_ne G _ h) (fun o' x b' hn' h1 h2 => hold b' (I.lt h1 h2)) (fun b' y hy => ?_) (fun o' x b' _ h1 h2 => I.off o' x b' h1 h2)
                    (.row _ _ _ _ ri2 w.heap.size 0 arr2 e hself (by simp) (fun v hv => ?_) rfl rfl ?_ (by simp only [ri2]; omega) (by simpa [ri2] using hge) (fun q hq => ?_) (rowCells_append o2 o1 hk n2 n1 n3)) (fun b' hb' => ?_) hlt
                  · rw [hold b' (I.memlt hy)]; exact I.mem b' y hy
                  · exact (if_neg (by omega)).trans (hmax v (by omega))
                  · show (w.heap.push _)[w.heap.size]? = _
                    simp [arr2, cap2]
                  · rcases List.mem_append.1 hq with h | h
                    · exact hk q h
                    · exact n3 q h
                  · simp [blkO, hself, ri2] at hb'
                    subst hb'
                    exact ⟨.inr hn, I.memfresh (Nat.le_refl _), fun o' x hn' h1 h2 => absurd (I.lt h1 h2) (by omega)⟩
                · have : o' ≠ o := fun e => by subst e; rw [g1] at hg'; cases hg'
                  show setG _ _ _ o' = none
                  rw [setG_ne _ _ this]; exact hg'
            · simp at h
          · simp at h
        · simp at h
    · simp at h
  · simp at h
end
end Go.Ab
end
section
/- Stores. -/
namespace Go.Ab
open Go

section
variable {P : Program} {τ : TT} {γ : GT} {F : Nat → Prop} {n0 : Nat} {w : World} {M : Mem} {G : Gh} {ob : OT}

def OpU (P : Program) (F : Nat → Prop) (n0 : Nat) (w : World) (M : Mem) (G : Gh) (ob : OT) (nb : Nat) (k : K3) (s : Sem Unit) : Prop :=
  ∃ w' M' G', s.run P w = .ok () w' ∧ k.1 = .tup [] ∧ Mle M M' ∧ Gle G G' ∧ Inv F n0 w' M' G' (newT ob nb k) ∧ FrS F n0 w w' ∧ (∀ o, o < ob.length → G o = none → (o ≠ nb ∨ k.2.2 = none) → G' o = none)

theorem splice_get {α : Type} (bs cs : List α) (off j : Nat) (h : off + cs.length ≤ bs.length) : (splice bs off cs)[j]? = if off ≤ j ∧ j < off + cs.length then cs[j - off]? else bs[j]? := by
  unfold splice
  by_cases h1 : j < off
  · rw [if_neg (by omega), List.getElem?_append_left (by simp; omega), List.getElem?_take_of_lt h1]
  · rw [List.getElem?_append_right (by simp; omega)]
    have hl : (bs.take off).length = off := by simp; omega
    rw [hl]
    by_cases h2 : j < off + cs.length
    · rw [if_pos ⟨by omega, h2⟩, List.getElem?_append_left (by omega)]
    · rw [if_neg (by omega), List.getElem?_append_right (by omega), List.getElem?_drop]
      congr 1
      omega
theorem splice_length {α : Type} (bs cs : List α) (off : Nat) (h : off + cs.length ≤ bs.length) : (splice bs off cs).length = bs.length := by
  simp [splice]; omega

def layA (arr : Array Value) (off : Nat) (vs : List Value) : Array Value := (arr.toList.take off ++ vs ++ arr.toList.drop (off + vs.length)).toArray
theorem layA_size (arr : Array Value) (off : Nat) (vs : List Value) (h : off + vs.length ≤ arr.size) : (layA arr off vs).size = arr.size := by simp [layA]; omega
theorem layA_get (arr : Array Value) (off : Nat) (vs : List Value) (h : off + vs.length ≤ arr.size) (j : Nat) : (layA arr off vs).getD j undef = if off ≤ j ∧ j < off + vs.length then vs.getD (j - off) undef else arr.getD j undef := by
  have := splice_get arr.toList vs off j (by simpa using h)
  unfold splice at this
  simp only [layA, Array.getD_eq_getD_getElem?, List.getElem?_toArray, List.append_assoc, this, List.getD_eq_getElem?_getD]
  split
  · rfl
  · simp

theorem run_lay {b off : Nat} {T : TypeId} {arr : Array Value} (hw : w.heap[b]? = some (.cells arr T (0, 0))) (vs : List Value) (h : off + vs.length ≤ arr.size) (h1 : ∀ v ∈ vs, v.oneCell' = true) :
    (storeCells ⟨b, off, none⟩ vs).run P w = .ok () (w.setRow b (layA arr off vs)) := by
  have := run_storeCells_at P b off T vs 0 arr w hw (by simpa using h) h1
  simpa [layA] using this

theorem Inv.write (I : Inv F n0 w M G ob) {o b : Nat} {x x' : O} {T : TypeId} {arr arr' : Array Value} (ho : getO ob o = some x) (hblk : blkO G o x = some b) (hw : w.heap[b]? = some (.cells arr T (0, 0)))
    (hnew : ObR (w.setRow b arr') M G o x') (hblk' : blkO G o x' = some b) : Inv F n0 (w.setRow b arr') M G (ob.set o (some x')) ∧ FrS F n0 w (w.setRow b arr') := by
  have hlt := getO_lt ho
  have hMb := I.off o _ b ho hblk
  have hoth : ∀ b', b' ≠ b → (w.setRow b arr').heap[b']? = w.heap[b']? := fun b' hb' => setRow_other w b b' arr' hb'
  have hne : ∀ o' x b', o' ≠ o → getO ob o' = some x → blkO G o' x = some b' → b' ≠ b := fun o' x b' hne h1 h2 hbb' => by subst hbb'; exact hne (I.dis o' o x _ b' h1 ho h2 hblk)
  refine ⟨I.upd (Mle.refl M) (Gle.refl G) (fun _ _ => rfl) (fun o' x b' hn' h1 h2 => hoth b' (hne o' x b' hn' h1 h2)) (fun b' y hy => ?_) (fun o' x b' _ h1 h2 => I.off o' x b' h1 h2) hnew (fun b' hb' => ?_) hlt,
    ⟨rfl, rfl, rfl, by simp [World.setRow], fun b' hb' hF => ?_⟩⟩
  · have : b' ≠ b := fun e => by subst e; rw [hMb] at hy; cases hy
    rw [hoth b' this]; exact I.mem b' y hy
  · rw [hblk'] at hb'
    cases hb'
    exact ⟨I.own o _ _ ho hblk, hMb, fun o' x hn' h1 h2 => hne o' x _ hn' h1 h2 rfl⟩
  · have : b' ≠ b := fun e => by subst e; rcases I.own o _ _ ho hblk with h | h; exact hF h; omega
    exact hoth b' this

theorem store_sound {T : TypeId} (A : Agree P τ) (I : Inv F n0 w M G ob) {nb : Nat} {a v : V} {r q : Value} (ha : VR M G a r) (hv : VR M G v q) {k : K3} (h : opStore τ (getO ob) T a v = some k) :
    OpU P F n0 w M G ob nb k (Instr.storeAt T r q) := by
  unfold opStore at h
  split at h
  · rename_i i hT
    split at h
    · rename_i hlen
      split at h
      · rename_i hone
        obtain ⟨c1, c2, c3⟩ := VR.cells I hv hone
        have hqs : q.cells.size = i.size := by omega
        have c3' : ∀ x ∈ q.cells.toList, x.oneCell' = true := fun x hx => c3 x (Array.mem_toList_iff.1 hx)
        have hrunS : ∀ b o w', (storeCells ⟨b, o, none⟩ q.cells.toList).run P w = .ok () w' → (Instr.storeAt T (.pointer (some ⟨b, o, none⟩)) q).run P w = .ok () w' := by
          intro b o w' hst
          simp [Instr.storeAt, Instr.sureAddr, storeVar, run_size A w hT, hqs, hst]
        split at h
        · rename_i o off
          split at h
          · rename_i cs ho
            split at h
            · rename_i hfit
              simp only [Option.some.injEq] at h
              subst h
              have hobj := I.obj o _ ho
              cases hobj with
              | box _ b arr Tb hg hw hl hcells =>
                have hre : r = .pointer (some ⟨b, off, none⟩) := by
                  cases ha with
                  | ref _ _ b' hg' => rw [hg] at hg'; cases hg'; rfl
                  | iter _ _ b' hg' => rw [hg] at hg'; cases hg'
                subst hre
                have hf2 : off + q.cells.toList.length ≤ arr.size := by simp; omega
                have hblk : blkO G o (.box cs) = some b := by simp [blkO, hg]
                have hf3 : off + v.cells.length ≤ cs.length := by omega
                obtain ⟨I2, Fr2⟩ := I.write (x' := .box (splice cs off v.cells)) (arr' := layA arr off q.cells.toList) ho hblk hw
                  (.box _ b _ Tb hg (setRow_heap w b arr _ Tb (0, 0) hw) (by rw [layA_size _ _ _ hf2, splice_length _ _ _ hf3]; exact hl) (fun j c hj => by
                    rw [splice_get _ _ _ _ hf3] at hj
                    rw [layA_get _ _ _ hf2]
                    by_cases hin : off ≤ j ∧ j < off + v.cells.length
                    · rw [if_pos hin] at hj
                      rw [if_pos (by simp; omega)]
                      simpa using c2 _ _ hj
                    · rw [if_neg hin] at hj
                      rw [if_neg (by simp; omega)]
                      exact hcells _ _ hj)) (by simp [blkO, hg])
                exact ⟨_, M, G, hrunS b off _ (run_lay hw _ hf2 c3'), rfl, Mle.refl _, Gle.refl _, by simpa [newT, upds] using I2, Fr2, fun _ _ h _ => h⟩
            · simp at h
          · simp at h
        · rename_i k' s j off
          split at h
          · rename_i o ver base len hrow
            split at h
            · rename_i k2 v2 es0 ho
              split at h
              · rename_i hc
                obtain ⟨rfl, rfl, hjl, hisS⟩ := hc
                split at h
                · rename_i e he
                  split at h
                  · rename_i hfit
                    split at h
                    · rename_i ts hts
                      simp only [Option.some.injEq] at h
                      subst h
                      obtain ⟨M', m1, I', _, m4, m5⟩ := toTrs_sound I (rs := q.cells.toList) (Mle.refl M) I (fun o x h => .inl h) (fun j c hj => by simpa using c2 j c hj) hts
                      simp only [upds] at I'
                      replace m5 : ∀ j t, (ts.map wkT)[j]? = some t → TR M' t (q.cells.toList.getD j undef) := fun j t ht => by
                        rw [List.getElem?_map, Option.map_eq_some_iff] at ht
                        obtain ⟨t0, h0, rfl⟩ := ht
                        exact (m5 j t0 h0).wkT
                      rw [← List.length_map (f := wkT)] at m4
                      clear hts
                      generalize ts.map wkT = ts at *
                      cases ha with
                      | el _ _ _ _ b ao n c hs hi =>
                        obtain ⟨⟨k3, es⟩, hrd⟩ := Option.isSome_iff_exists.1 hisS
                        obtain ⟨f, ri, a', c', g1, g2, g3, g4, g5, g6, g8, g9, es0', g10, g11, g12⟩ := asRow_sound I hs hrow hrd
                        rw [ho] at g10
                        cases g10
                        simp only [Value.slice.injEq] at g4
                        obtain ⟨rfl, rfl, rfl⟩ := g4
                        have hobj := I'.obj o _ ho
                        cases hobj with
                        | nil => simp at he
                        | row _ _ _ f' ri' b' st' arr Tb hg' hv' hmx hkk hbb hw hcap hlen' hee hcells =>
                          rw [g1] at hg'; cases hg'; rw [g2] at hv'; cases hv'
                          obtain ⟨b2, st2, hb2, hab⟩ := g8 (by omega)
                          rw [hbb] at hb2; cases hb2
                          simp only [Option.some.injEq, Addr.mk.injEq, and_true] at hab
                          obtain ⟨rfl, rfl⟩ := hab
                          have hel : e.length = k2 := hee e (List.mem_of_getElem? he)
                          have hq2 : off + q.cells.toList.length ≤ k2 := by simp; omega
                          have hin0 : base + j < es0.length := (List.getElem?_eq_some_iff.1 he).1
                          have hpos : st' + (base + j) * k2 + k2 ≤ arr.size := by
                            have : (base + j + 1) * k2 ≤ ri.cap * k2 := Nat.mul_le_mul_right _ (by omega)
                            rw [Nat.add_mul, Nat.one_mul] at this
                            omega
                          have hoff : st' + base * ri.k + j * k2 + off = st' + (base + j) * k2 + off := by rw [hkk, Nat.add_mul]; omega
                          have hf2 : st' + (base + j) * k2 + off + q.cells.toList.length ≤ arr.size := by omega
                          have hblk : blkO G o (.row k2 v2 es0) = some b := by simp [blkO, g1, g2, hbb]
                          have hf3 : off + ts.length ≤ e.length := by omega
                          have htsl : ts.length = q.cells.toList.length := by simp; omega
                          obtain ⟨I2, Fr2⟩ := I'.write (x' := .row k2 v2 (es0.set (base + j) (splice e off ts))) (arr' := layA arr (st' + (base + j) * k2 + off) q.cells.toList) ho hblk hw
                            (.row _ _ _ f ri b st' _ Tb g1 g2 hmx hkk hbb (setRow_heap w b arr _ Tb (0, 0) hw) (by rw [layA_size _ _ _ hf2]; exact hcap) (by simpa using hlen')
                              (fun x hx => by
                                rcases List.mem_or_eq_of_mem_set hx with hm | hm
                                · exact hee x hm
                                · rw [hm, splice_length _ _ _ hf3]; exact hel)
                              (by
                                intro ii x jj t hx ht
                                rw [layA_get _ _ _ hf2]
                                have hxl : x.length = k2 := by
                                  rcases List.mem_or_eq_of_mem_set (List.mem_of_getElem? hx) with hm | hm
                                  · exact hee x hm
                                  · rw [hm, splice_length _ _ _ hf3]; exact hel
                                have hjj : jj < k2 := by rw [← hxl]; exact (List.getElem?_eq_some_iff.1 ht).1
                                by_cases hii : ii = base + j
                                · subst hii
                                  rw [List.getElem?_set_self hin0] at hx
                                  cases hx
                                  rw [splice_get _ _ _ _ hf3] at ht
                                  by_cases hin : off ≤ jj ∧ jj < off + ts.length
                                  · rw [if_pos hin] at ht
                                    rw [if_pos (by omega)]
                                    have := m5 _ _ ht
                                    rw [show st' + (base + j) * k2 + jj - (st' + (base + j) * k2 + off) = jj - off by omega]
                                    exact this
                                  · rw [if_neg hin] at ht
                                    rw [if_neg (by omega)]
                                    exact hcells _ _ _ _ he ht
                                · rw [List.getElem?_set_ne (Ne.symm hii)] at hx
                                  rw [if_neg (by
                                    intro ⟨q1, q2⟩
                                    rcases Nat.lt_or_gt_of_ne hii with hlt | hgt
                                    · have : (ii + 1) * k2 ≤ (base + j) * k2 := Nat.mul_le_mul_right _ hlt
                                      rw [Nat.add_mul, Nat.one_mul] at this; omega
                                    · have : (base + j + 1) * k2 ≤ ii * k2 := Nat.mul_le_mul_right _ hgt
                                      rw [Nat.add_mul, Nat.one_mul] at this; omega)]
                                  exact hcells _ _ _ _ hx ht)) (by simp [blkO, g1, g2, hbb])
                          refine ⟨_, M', G, hrunS b _ _ (by rw [hoff]; exact run_lay hw _ hf2 c3'), rfl, m1, Gle.refl _, by simpa [newT, upds] using I2, Fr2, fun _ _ h _ => h⟩
                    · simp at h
                  · simp at h
                · simp at h
              · simp at h
            · simp at h
          · simp at h
        · simp at h
      · simp at h
    · simp at h
  · simp at h
end
end Go.Ab
end
