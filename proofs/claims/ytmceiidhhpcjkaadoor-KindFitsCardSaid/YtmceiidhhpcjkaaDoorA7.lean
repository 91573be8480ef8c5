/- A machine that carries out the translated code on data, and why it is right, part 7 -/
import Derived.Lib.ConvBytes
import Derived.Test.YtmceiidhhpcjkaaDoorA6
set_option linter.all false
section
/- copy, clear, conversions, struct literals. -/
namespace Go.Ab
open Go

section
variable {P : Program} {τ : TT} {γ : GT} {F : Nat → Prop} {n0 : Nat} {w : World} {M : Mem} {G : Gh} {ob : OT}

theorem Inv.stretch (I : Inv F n0 w M G ob) {d : V} {r : Value} (hd : VR M G d r) {o ver off len k : Nat} {es es0 ys : List (List Tr)} (hrow : asRow d = some (o, ver, off, len)) (hr : rdS (getO ob) d = some (k, es))
    (ho : getO ob o = some (.row k ver es0)) {cells : Array Value} (hys : ys.length ≤ es.length) (hs : cells.size = ys.length * k) (hc : RowCells M cells 0 k ys) (hk : ∀ e ∈ ys, e.length = k) (h1 : ∀ x ∈ cells, x.oneCell' = true) :
    ∃ a c w', r = .slice a es.length c ∧ (match a with | some a => storeCells a cells.toList | none => pure ()).run P w = .ok () w' ∧ Inv F n0 w' M G (ob.set o (some (.row k ver (splice es0 off ys)))) ∧ FrS F n0 w w' := by
  obtain ⟨f, ri, a, c, g1, g2, g3, g4, g5, g6, g8, g9, es0', g10, g11, g12⟩ := asRow_sound I hd hrow hr
  rw [ho] at g10
  cases g10
  subst g4
  have hf3 : off + ys.length ≤ es0.length := by omega
  by_cases hy : ys.length = 0
  · have hcn : cells = #[] := Array.eq_empty_of_size_eq_zero (by rw [hs, hy, Nat.zero_mul])
    have hyn : ys = [] := List.length_eq_zero_iff.1 hy
    subst hcn; subst hyn
    have hsp : splice es0 off ([] : List (List Tr)) = es0 := by simp [splice]
    refine ⟨a, c, w, by rw [g9], by cases a <;> simp [storeCells], ?_, FrS.refl _ _ _⟩
    rw [hsp]
    have : ob.set o (some (O.row k ver es0)) = ob := by
      have hlt := getO_lt ho
      apply List.ext_getElem?
      intro j
      by_cases hj : j = o
      · subst hj
        rw [List.getElem?_set_self hlt]
        unfold getO at ho
        rw [List.getElem?_eq_getElem hlt] at ho ⊢
        simp at ho
        rw [ho]
      · rw [List.getElem?_set_ne (Ne.symm hj)]
    rw [this]; exact I
  · obtain ⟨b, st, hblk0, rfl⟩ := g8 (by omega)
    have hobj := I.obj o _ ho
    cases hobj with
    | nil => simp at g12; omega
    | row _ _ _ f' ri' b' st' arr Tb hg' hv' hmx hkk hbb hw hcap hlen' hee hcells =>
      rw [g1] at hg'; cases hg'; rw [g2] at hv'; cases hv'
      rw [hbb] at hblk0; cases hblk0
      have hblk : blkO G o (.row k ver es0) = some b := by simp [blkO, g1, g2, hbb]
      have hpos : st + off * k + ys.length * k ≤ arr.size := by
        have : (off + ys.length) * k ≤ ri.cap * k := Nat.mul_le_mul_right _ (by omega)
        rw [Nat.add_mul] at this
        omega
      have hf2 : st + off * k + cells.toList.length ≤ arr.size := by simp only [Array.length_toList, hs]; exact hpos
      have h1' : ∀ x ∈ cells.toList, x.oneCell' = true := fun x hx => h1 x (Array.mem_toList_iff.1 hx)
      obtain ⟨I2, Fr2⟩ := I.write (x' := .row k ver (splice es0 off ys)) (arr' := layA arr (st + off * k) cells.toList) ho hblk hw
        (.row _ _ _ f ri b st _ Tb g1 g2 hmx hkk hbb (setRow_heap w b arr _ Tb (0, 0) hw) (by rw [layA_size _ _ _ hf2]; exact hcap) (by rw [splice_length _ _ _ hf3]; exact hlen')
          (fun x hx => by
            obtain ⟨j, hj⟩ := List.mem_iff_getElem?.1 hx
            rw [splice_get _ _ _ _ hf3] at hj
            split at hj
            · exact hk x (List.mem_of_getElem? hj)
            · exact hee x (List.mem_of_getElem? hj))
          (by
            intro ii x jj t hx ht
            rw [layA_get _ _ _ hf2]
            rw [splice_get _ _ _ _ hf3] at hx
            by_cases hin : off ≤ ii ∧ ii < off + ys.length
            · rw [if_pos hin] at hx
              have hxl : x.length = k := hk x (List.mem_of_getElem? hx)
              have hjj : jj < k := by rw [← hxl]; exact (List.getElem?_eq_some_iff.1 ht).1
              have e1 : ii * k = off * k + (ii - off) * k := by rw [← Nat.add_mul]; congr 1; omega
              have e2 : (ii - off + 1) * k ≤ ys.length * k := Nat.mul_le_mul_right _ (by omega)
              rw [Nat.add_mul, Nat.one_mul] at e2
              rw [if_pos (by simp only [Array.length_toList, hs]; omega)]
              have := hc _ _ _ _ hx ht
              rw [show st + ii * k + jj - (st + off * k) = 0 + (ii - off) * k + jj by omega]
              simpa using this
            · rw [if_neg hin] at hx
              have hxl : x.length = k := hee x (List.mem_of_getElem? hx)
              have hjj : jj < k := by rw [← hxl]; exact (List.getElem?_eq_some_iff.1 ht).1
              rw [if_neg (by
                simp only [Array.length_toList, hs]
                intro ⟨q1, q2⟩
                by_cases hlo : ii < off
                · have : (ii + 1) * k ≤ off * k := Nat.mul_le_mul_right _ hlo
                  rw [Nat.add_mul, Nat.one_mul] at this; omega
                · have : (off + ys.length) * k ≤ ii * k := Nat.mul_le_mul_right _ (by omega)
                  rw [Nat.add_mul] at this; omega)]
              exact hcells _ _ _ _ hx ht)) (by simp [blkO, g1, g2, hbb])
      refine ⟨_, c, w.setRow b (layA arr (st + off * k) cells.toList), by rw [g9], ?_, I2, Fr2⟩
      rw [hkk]
      exact run_lay hw _ hf2 h1'

theorem copy_sound {dT sT : TypeId} (A : Agree P τ) (I : Inv F n0 w M G ob) {nb : Nat} {d s : V} {r q : Value} (hd : VR M G d r) (hs : VR M G s q) {k : K3} (h : opCopy τ (getO ob) dT sT d s = some k) (ty : TypeId) :
    OpM P F n0 w M G ob nb k (Builtin.copy_ #[dT, sT] ty #[r, q]) := by
  unfold opCopy cpyT at h
  split at h
  · rename_i i i2 hi hi2
    obtain ⟨si, e, hT, hdd, he, ht⟩ := elemT_sound A hi
    split at h
    · rename_i ys es hys hes
      split at h
      · rename_i o ver off len hrow
        split at h
        · rename_i k' v' es0 ho
          split at h
          · rename_i hc
            obtain ⟨rfl, rfl⟩ := hc
            simp only [Option.some.injEq] at h
            subst h
            obtain ⟨a, c, rfl, hle, _, hk, hrd⟩ := rdK_sound I hs hys
            obtain ⟨k2, hes2⟩ := rdK_rdS hes
            have hk2 : k2 = i.size ∨ es.length = 0 := by
              unfold rdK at hes
              rw [hes2] at hes
              simp only [] at hes
              split at hes
              · assumption
              · simp at hes
            -- the cells that are copied
            let ys' := ys.take es.length
            have hrd' : Reads w M i.size ys' a := by
              have := hrd.cut 0 (min ys.length es.length) (min ys.length es.length + 1) (by omega) (by omega)
              rw [if_neg (by omega)] at this
              have e1 : (ys.drop 0).take (min ys.length es.length) = ys' := by simp [ys', List.take_eq_take_iff]; omega
              rw [e1] at this
              intro hne
              obtain ⟨b, o, hb, hcc⟩ := this hne
              cases a with
              | none => simp at hb
              | some a =>
                simp only [Nat.zero_mul, Option.map_some, Option.some.injEq] at hb
                exact ⟨b, o, by rw [← hb]; simp [Addr.add], hcc⟩
            have hk' : ∀ x ∈ ys', x.length = i.size := fun x hx => hk x (List.mem_of_mem_take hx)
            obtain ⟨cells, b1, b2, b3, b4⟩ := reads_cells (P := P) hk' hrd' (.inl rfl) c
            have hlen' : ys'.length = min ys.length es.length := by simp [ys', Nat.min_comm]
            -- the row that is written
            have hrS : ∃ kk, rdS (getO ob) d = some (kk, es) ∧ kk = i.size := by
              rcases hk2 with h | h
              · exact ⟨k2, hes2, h⟩
              · obtain ⟨f, ri, a', c', g1, g2, g3, g4, g5, g6, g8, g9, es0', g10, g11, g12⟩ := asRow_sound I hd hrow hes2
                rw [ho] at g10
                cases g10
                exact ⟨_, hes2, rfl⟩
            obtain ⟨kk, hrS, rfl⟩ := hrS
            obtain ⟨a', c', w', rfl, hst, I2, Fr2⟩ := I.stretch (P := P) hd hrow hrS ho (ys := ys') (by omega) b1 b2 hk' b3
            refine ⟨goInt (min ys.length es.length : Nat), w', M, G, ?_, Mle.refl _, Gle.refl _, .tr (.lit _ rfl), by simpa [newT, upds] using I2, Fr2, fun _ _ h _ => h⟩
            have hfc := b4 w rfl
            have hfc' : (Builtin.firstCells i.size (min ys.length es.length) (.slice a ys.length c)).run P w = .ok cells w := by
              rw [← hlen']
              cases a <;> simpa [Builtin.firstCells] using hfc
            cases a' with
            | none =>
              simp only [Sem.run_pure, Result.ok.injEq, true_and] at hst
              subst hst
              simp [Builtin.copy_, run_und A _ hT, hdd, run_size A _ he, Builtin.lenOf, hfc']
            | some a' =>
              simp only [] at hst
              simp [Builtin.copy_, run_und A _ hT, hdd, run_size A _ he, Builtin.lenOf, hfc', hst]
          · simp at h
        · simp at h
      · simp at h
    · simp at h
  · simp at h

theorem clear_sound {T : TypeId} (A : Agree P τ) (I : Inv F n0 w M G ob) {nb : Nat} {d : V} {r : Value} (hd : VR M G d r) {k : K3} (h : opClear τ (getO ob) T d = some k) (ty : TypeId) :
    OpM P F n0 w M G ob nb k (Builtin.clear_ #[T] ty #[r]) := by
  unfold opClear at h
  split at h
  · rename_i i hi
    obtain ⟨si, e, hT, hdd, he, ht⟩ := elemT_sound A hi
    split at h
    · rename_i es hes
      split at h
      · rename_i o ver off len hrow
        split at h
        · rename_i k' v' es0 ho
          split at h
          · rename_i hc
            obtain ⟨rfl, rfl⟩ := hc
            simp only [Option.some.injEq] at h
            subst h
            obtain ⟨k2, hes2⟩ := rdK_rdS hes
            have hk2 : k2 = i.size := by
              obtain ⟨f, ri, a', c', g1, g2, g3, g4, g5, g6, g8, g9, es0', g10, g11, g12⟩ := asRow_sound I hd hrow hes2
              rw [ho] at g10
              cases g10
              rfl
            subst hk2
            have hz := zero_size A he
            have h1 := A.one e i he
            have hm := made_cells (M := M) i h1 hz es.length (es.length * i.size) (Nat.le_refl _)
            have e1 : madeCells i.zero.cells (es.length * i.size) = Builtin.zeroCells i.zero.cells es.length := by simp [madeCells, Builtin.zeroCells, hz]
            rw [e1] at hm
            have hone : ∀ x ∈ Builtin.zeroCells i.zero.cells es.length, x.oneCell' = true := by
              intro v hv
              simp only [Builtin.zeroCells, Array.mem_map] at hv
              obtain ⟨q, hq, rfl⟩ := hv
              simp at hq
              have hp : 0 < i.zero.cells.size := by
                rcases Nat.eq_zero_or_pos i.zero.cells.size with h0 | h0
                · rw [h0] at hq; simp at hq
                · exact h0
              have hm := Nat.mod_lt q hp
              rw [getElem!_pos i.zero.cells _ hm]
              exact oneV_cell (h1 _ (Array.getElem_mem hm))
            obtain ⟨a', c', w', rfl, hst, I2, Fr2⟩ := I.stretch (P := P) hd hrow hes2 ho (ys := List.replicate es.length (zeroT i)) (by simp) (by rw [size_zeroCells, hz]; simp) hm (fun x hx => by rw [List.eq_of_mem_replicate hx]; exact (zeroT_sound (M := M) i h1 hz).1) hone
            refine ⟨.tuple #[], w', M, G, ?_, Mle.refl _, Gle.refl _, .tup _ _ rfl (fun j c hj => by simp at hj), by simpa [newT, upds] using I2, Fr2, fun _ _ h _ => h⟩
            cases a' with
            | none =>
              simp only [Sem.run_pure, Result.ok.injEq, true_and] at hst
              subst hst
              simp [Builtin.clear_, run_und A _ hT, hdd]
            | some a' =>
              simp only [] at hst
              by_cases h0 : es.length = 0
              · rw [h0] at hst ⊢
                have hz0 : Builtin.zeroCells i.zero.cells 0 = #[] := zeroCells_none _ _ (by simp)
                rw [hz0] at hst
                simp [storeCells] at hst
                subst hst
                simp [Builtin.clear_, run_und A _ hT, hdd]
              · obtain ⟨n, hn⟩ : ∃ n, es.length = n + 1 := ⟨es.length - 1, by omega⟩
                rw [hn] at hst ⊢
                simp [Builtin.clear_, run_und A _ hT, hdd, run_zero A _ he, hst]
          · simp at h
        · simp at h
      · simp at h
    · simp at h
  · simp at h

theorem Inv.lay (I : Inv F n0 w M G ob) {y : Obj} {w' : World} (hw : w'.heap[w.heap.size]? = some y) (hold : ∀ b, b < w.heap.size → w'.heap[b]? = w.heap[b]?) : ∃ M', Mle M M' ∧ Inv F n0 w' M' G ob ∧ M' w.heap.size = some y := by
  have hfresh := I.memfresh (Nat.le_refl w.heap.size)
  have hle : Mle M (fun b => if b = w.heap.size then some y else M b) := fun b z hz => by
    have : b ≠ w.heap.size := fun e => by subst e; rw [hfresh] at hz; cases hz
    simp [this, hz]
  refine ⟨_, hle, ⟨fun b z hz => ?_, fun o x h => (I.obj o x h).mono hle (Gle.refl G) rfl (fun b hb => hold b (I.lt h hb)), I.dis, fun o x b h hb => ?_, I.own, I.dom⟩, by simp⟩
  · by_cases hb : b = w.heap.size
    · simp [hb] at hz; subst hz; rw [hb, hw]
    · simp [hb] at hz; rw [hold b (I.memlt hz)]; exact I.mem b z hz
  · have : b ≠ w.heap.size := fun e => by have := I.lt h hb; omega
    simp [this]; exact I.off o x b h hb

theorem conv_sound {S D : TypeId} (A : Agree P τ) (I : Inv F n0 w M G ob) {nb : Nat} (hn : n0 ≤ w.heap.size) {x : V} {r : Value} (hx : VR M G x r) {k : K3} (h : opConv τ S D x = some k) :
    OpM P F n0 w M G ob nb k (convert S D r) := by
  unfold opConv at h
  split at h
  · rename_i si i hS hD
    split at h
    · rename_i k1 k2 hd1 hd2
      split at h
      · rename_i k3 n hl
        have := litInt_sound hx hl
        subst this
        refine OpV.opM I ?_
        obtain ⟨v, x', h1, h2, h3⟩ := pv_sound (P := P) (w := w) (M := M) (G := G) h
        exact ⟨v, x', h1, by simp [convert, run_und A _ hS, run_und A _ hD, hd1, hd2, h2], h3⟩
      · simp at h
    · rename_i hd1 hd2
      split at h
      · rename_i s hl
        have := litStr_sound hx hl
        subst this
        simp only [Option.some.injEq] at h
        subst h
        exact OpV.opM I ⟨_, .string s, rfl, by simp [convert, run_und A _ hS, run_und A _ hD, hd1, hd2], .tr (.lit _ rfl)⟩
      · simp at h
    · rename_i e hd1 hd2
      split at h
      · rename_i ei s he hl
        have := litStr_sound hx hl
        subst this
        split at h
        · rename_i hde
          split at h
          · rename_i hc
            simp only [Option.some.injEq] at h
            subst h
            obtain ⟨a1, a2, a3, a4⟩ := bytes_cells M s
            have hge : s.size ≤ grownCap w s.size 0 e := grownCap_ge w s.size 0 e
            obtain ⟨M', m1, m2, m3⟩ := I.lay (Lib.bytesWorld_at_new w e s) (fun b hb => Lib.bytesWorld_at_old w e s b hb)
            have hu1 := (A.ty S si hS).1
            have hu2 := (A.ty D i hD).1
            have hu3 := (A.ty e ei he).1
            rw [hd1] at hu1; rw [hd2] at hu2; rw [hde] at hu3
            refine ⟨_, _, M', G, Lib.run_convert_string_bytes w S D e s hu1 hu2 hu3, m1, Gle.refl _, .tr ?_, by simpa [newT, upds] using m2, ⟨rfl, rfl, rfl, by rw [Lib.bytesWorld_size]; omega, fun b hb _ => Lib.bytesWorld_at_old w e s b (by omega)⟩, fun _ _ h _ => h⟩
            · have hcell : ∀ i (h : i < s.size), M'.cell w.heap.size i = some (.int .u8 (s.data[i]'h).toNat) := by
                intro i h
                have h' : i < s.data.size := h
                unfold Mem.cell
                rw [m3]
                simp only [Lib.bytesCells]
                rw [Array.getElem?_append_left (by simpa using h'), Array.getElem?_map, Array.getElem?_eq_getElem h']
                rfl
              rw [show s.size = (bytesE s).length from a4.symm] at hge ⊢
              refine .sl 1 false (bytesE s) w.heap.size 0 (grownCap w (bytesE s).length 0 e) (fun i _ => (M'.cell w.heap.size i).getD undef) (by simp) (by omega) a3 ?_ ?_
              · intro i x j t hx ht
                have hj : j = 0 := by have := a3 x (List.mem_of_getElem? hx); have := (List.getElem?_eq_some_iff.1 ht).1; omega
                have hi : i < s.size := by rw [← a4]; exact (List.getElem?_eq_some_iff.1 hx).1
                subst hj
                rw [show 0 + i * 1 + 0 = i by omega, hcell i hi]; rfl
              · intro i x j t hx ht
                have hi : i < s.size := by rw [← a4]; exact (List.getElem?_eq_some_iff.1 hx).1
                have hj : j = 0 := by have := a3 x (List.mem_of_getElem? hx); have := (List.getElem?_eq_some_iff.1 ht).1; omega
                subst hj
                have := (a2 i x 0 t hx ht).mono m1
                rw [show 0 + i * 1 + 0 = i by omega, getD_map_bytes s i hi] at this
                rw [hcell i hi]
                exact this
          · simp at h
        · simp at h
      · simp at h
    · simp at h
  · simp at h

/- a slice of bytes that is converted to its own type: it is marked, and stays as it is -/
theorem TR.cmono {M M' : Mem} (h : ∀ b off v, M.cell b off = some v → M'.cell b off = some v) {t : Tr} {v : Value} (r : TR M t v) : TR M' t v := by
  induction r with
  | lit v h1 => exact .lit v h1
  | nil k full a c hc => exact .nil k full a c hc
  | sl k full es b off c f hc hle hk hm ht ih => exact .sl k full es b off c f hc hle hk (fun i j e t he ht' => h _ _ _ (hm i j e t he ht')) (fun i e j t he ht' => ih i e j t he ht')
theorem VR.cmono {M M' : Mem} (hM : ∀ b off v, M.cell b off = some v → M'.cell b off = some v) {v : V} {r : Value} (h : VR M G v r) : VR M' G v r := by
  induction h with
  | tr h => exact .tr (h.cmono hM)
  | agg cs vs hl h ih => exact .agg cs vs hl ih
  | ref o off b hg => exact .ref o off b hg
  | iter o off b hg => exact .iter o off b hg
  | row o ver off len f ri a hg hv hl ha => exact .row o ver off len f ri a hg hv hl ha
  | sub k v lo n full a a' n0 c0 m h hlo hm hm2 hf ha ih => exact .sub k v lo n full a a' n0 c0 m ih hlo hm hm2 hf ha
  | el k v i off b o n c h hi ih => exact .el k v i off b o n c ih hi
  | glob g off => exact .glob g off
  | fn f as bs xs ys h1 h2 ha hb iha ihb => exact .fn f as bs xs ys h1 h2 iha ihb
  | tup cs vs hl h ih => exact .tup cs vs hl ih
  | mp o b hg => exact .mp o b hg
  | junk v => exact .junk v
theorem Inv.mark (I : Inv F n0 w M G ob) {b : Nat} {arr : Array Value} {T : TypeId} {fz fz' : Nat × Nat} (hb : M b = some (.cells arr T fz)) {w' : World} (hw : ∀ b', w'.heap[b']? = if b' = b then some (.cells arr T fz') else w.heap[b']?) :
    ∃ M', (∀ b off v, M.cell b off = some v → M'.cell b off = some v) ∧ (∀ b', b' ≠ b → M' b' = M b') ∧ Inv F n0 w' M' G ob := by
  have hc : ∀ b1 off v, M.cell b1 off = some v → Mem.cell (fun b' => if b' = b then some (.cells arr T fz') else M b') b1 off = some v := by
    intro b1 off v h
    unfold Mem.cell at h ⊢
    by_cases h1 : b1 = b
    · subst h1; rw [hb] at h; simpa using h
    · simpa [h1] using h
  have hne : ∀ {o x b1}, getO ob o = some x → blkO G o x = some b1 → b1 ≠ b := fun hx hb1 he => by
    subst he
    rw [I.off _ _ _ hx hb1] at hb; cases hb
  refine ⟨fun b' => if b' = b then some (.cells arr T fz') else M b', hc, fun b' h => by simp [h], ⟨fun b' x hx => ?_, fun o x hx => ?_, I.dis, fun o x b1 hx hb1 => ?_, I.own, I.dom⟩⟩
  · rw [hw]
    by_cases h1 : b' = b
    · simpa [h1] using hx
    · simp only [h1, if_false] at hx ⊢; exact I.mem b' x hx
  · have := I.obj o x hx
    cases this with
    | box cs b1 arr1 T1 hg hw' hl h =>
      refine .box cs b1 arr1 T1 hg ?_ hl (fun j c hj => (h j c hj).cmono hc)
      rw [hw, if_neg (hne hx (by simp [blkO, hg]))]; exact hw'
    | row k ver es f ri b1 st arr1 T1 hg hv hmax hk hb1 hw' hcap hlen he h =>
      refine .row k ver es f ri b1 st arr1 T1 hg hv hmax hk hb1 ?_ hcap hlen he (fun i e j t hi hj => (h i e j t hi hj).cmono hc)
      rw [hw, if_neg (hne hx (by simp [blkO, hg, hv, hb1]))]; exact hw'
    | nil k ver f ri hg hv hmax hk hb1 hcap => exact .nil k ver f ri hg hv hmax hk hb1 hcap
    | iter s pos b1 hg hw' =>
      refine .iter s pos b1 hg ?_
      rw [hw, if_neg (hne hx (by simp [blkO, hg]))]; exact hw'
    | mp ks vs b1 es hg hw' hk hb1 hl h =>
      refine .mp ks vs b1 es hg ?_ hk hb1 hl (fun j c hj => (h j c hj).cmono hc)
      rw [hw, if_neg (hne hx (by simp [blkO, hg]))]; exact hw'
    | mit m n seen b1 bm hg hm hw' =>
      refine .mit m n seen b1 bm hg hm ?_
      rw [hw, if_neg (hne hx (by simp [blkO, hg]))]; exact hw'
  · have := hne hx hb1
    simp only [this, if_false]; exact I.off o x b1 hx hb1

theorem convS_sound {S D : TypeId} (A : Agree P τ) (I : Inv F n0 w M G ob) {nb : Nat} (hn : n0 ≤ w.heap.size) {x : V} {r : Value} (hx : VR M G x r) {k : K3} (h : opConv2 τ (getO ob) S D x = some k) :
    OpM P F n0 w M G ob nb k (convert S D r) := by
  unfold opConv2 at h
  split at h
  · rename_i si i hS hD
    split at h
    · rename_i e1 e hd1 hd2
      split at h
      · rename_i hSD
        subst hSD
        rw [hS] at hD
        cases hD
        rw [hd1] at hd2
        cases hd2
        split at h
        · rename_i ei he
          split at h
          · rename_i hde
            split at h
            · rename_i o ver off len
              split at h
              · rename_i kk e0 es hr
                simp only [Option.some.injEq] at h
                subst h
                have ht : toTr (getO ob) (.row o ver off len) = some (.sl kk false (e0 :: es), [(o, none)]) := by simp [toTr, hr]
                obtain ⟨M1, a1, a2, a3, a4⟩ := toTr_sound I (Mle.refl M) I (fun _ _ h => .inl h) hx ht
                obtain ⟨a, c, heq, hle, _, hk, hrd⟩ := rd_sound I hx hr
                obtain ⟨b, off', rfl, hcell⟩ := hrd (by simp)
                subst heq
                -- the block
                have hbk : ∃ arr T fz, M1 b = some (.cells arr T fz) ∧ w.heap[b]? = some (.cells arr T (0, 0)) ∧ M b = none ∧ (F b ∨ n0 ≤ b) := by
                  cases hx with
                  | row _ _ _ len1 f ri _ hg hv hl ha =>
                    simp only [rdS] at hr
                    cases hoo : getO ob o with
                    | none => simp [hoo] at hr
                    | some y =>
                      have hI := I.obj o y hoo
                      cases y with
                      | box cs => simp [hoo] at hr
                      | iter s p => simp [hoo] at hr
                      | mp _ _ => simp [hoo] at hr
                      | mit _ _ _ => simp [hoo] at hr
                      | row k' v' es' =>
                        simp only [hoo] at hr
                        split at hr
                        · rename_i hc
                          obtain ⟨rfl, hc⟩ := hc
                          simp only [Option.some.injEq, Prod.mk.injEq] at hr
                          have hlen := congrArg List.length hr.2
                          simp at hlen
                          obtain ⟨b', st', hb', hab⟩ := ha (by simp only [List.length_cons] at hl; omega)
                          cases hab
                          have hblk : blkO G o (.row k' v' es') = some b := by simp [blkO, hg, hv, hb']
                          have hM1 : M1 b = w.heap[b]? := by
                            rcases a3 o _ hoo with h1 | h1
                            · simp [upds] at h1
                              have : getO (ob.set o none) o = none := by
                                unfold getO
                                have hl := getO_lt hoo
                                rw [List.getElem?_set_self hl]; rfl
                              rw [this] at h1; cases h1
                            · exact h1 b hblk
                          cases hI with
                          | row _ _ _ f2 ri2 b2 st2 arr T hg2 hv2 _ _ hb2 hw2 =>
                            rw [hg] at hg2; cases hg2
                            rw [hv] at hv2; cases hv2
                            rw [hb'] at hb2; cases hb2
                            exact ⟨arr, T, (0, 0), by rw [hM1, hw2], hw2, I.off o _ b hoo hblk, I.own o _ b hoo hblk⟩
                          | nil _ _ f2 ri2 hg2 hv2 _ _ hb2 =>
                            rw [hg] at hg2; cases hg2
                            rw [hv] at hv2; cases hv2
                            rw [hb'] at hb2; cases hb2
                        · simp at hr
                obtain ⟨arr, T, fz, hM1, hwb, hMb, hown⟩ := hbk
                have hlt : b < w.heap.size := (Array.getElem?_eq_some_iff.1 hwb).1
                have hw' : ∀ b', (w.freeze ⟨b, arr.size, none⟩ 1).heap[b']? = if b' = b then some (.cells arr T (arr.size, arr.size + 1)) else w.heap[b']? := by
                  intro b'
                  simp only [World.freeze, Nat.one_ne_zero, if_false, Array.getElem?_modify]
                  by_cases hb' : b = b'
                  · subst hb'
                    simp [hwb]
                  · simp [hb', Ne.symm hb']
                obtain ⟨M2, c1, c2, c3⟩ := a2.mark hM1 hw'
                have hrun : (convert S S (.slice (some ⟨b, off', none⟩) (e0 :: es).length c)).run P w = .ok (.slice (some ⟨b, off', none⟩) (e0 :: es).length c) (w.freeze ⟨b, arr.size, none⟩ 1) := by
                  have hsh : w.shape? b = some (T, arr.size) := by simp [World.shape?, hwb]
                  simp [convert, run_und A _ hS, hd1, run_und A _ he, hde, markStringish, shape, freeze, Sem.run, hsh]
                refine ⟨_, _, M2, G, hrun, fun b' y hy => ?_, Gle.refl _, .tr (a4.cmono c1), by simpa [newT] using c3, ⟨rfl, rfl, rfl, by simp [World.freeze], fun b' hb' hF => ?_⟩, fun _ _ h _ => h⟩
                · have : b' ≠ b := fun he => by rw [he, hMb] at hy; cases hy
                  rw [c2 b' this]; exact a1 b' y hy
                · have : b' ≠ b := fun he => by
                    subst he
                    rcases hown with h1 | h1
                    · exact hF h1
                    · omega
                  rw [hw', if_neg this]
              · simp at h
            · simp at h
          · simp at h
        · simp at h
      · simp at h
    · exact conv_sound A I hn hx h
  · simp at h
end
end Go.Ab
end
section
/- Struct literals; one operation. -/
namespace Go.Ab
open Go

section
variable {P : Program} {τ : TT} {γ : GT} {F : Nat → Prop} {n0 : Nat} {w : World} {M : Mem} {G : Gh} {ob : OT}

theorem places_run (A : Agree P τ) : ∀ (fs : List Field), (∀ f ∈ fs, ∃ fi, τ f.type = some fi) → ∃ pl : List (Nat × Nat), (fs.mapM fun f => (do pure (f.offset, ← sizeOf f.type) : Sem (Nat × Nat))).run P w = .ok pl w ∧ pl.length = fs.length ∧
    ∀ (j : Nat) (f : Field) (fi : TI), fs[j]? = some f → τ f.type = some fi → pl[j]? = some (f.offset, fi.size)
  | [], _ => ⟨[], rfl, rfl, fun j f fi h => by simp at h⟩
  | f :: r, h => by
    obtain ⟨fi, hfi⟩ := h f (by simp)
    obtain ⟨pl, h1, h2, h3⟩ := places_run A r (fun x hx => h x (by simp [hx]))
    refine ⟨(f.offset, fi.size) :: pl, ?_, by simp [h2], fun j g gi hj hg => ?_⟩
    · rw [List.mapM_cons]
      simp only [Sem.run_bind, run_size A w hfi, Result.andThen_ok, Sem.run_pure, h1]
    · cases j with
      | zero => simp at hj; subst hj; rw [hfi] at hg; cases hg; rfl
      | succ j => simp at hj; simpa using h3 j g gi hj hg

theorem fillV_sound (I : Inv F n0 w M G ob) {pl : Nat → Option (Nat × Nat)} {pr : Nat → Option (Nat × Nat)} (hpl : ∀ j p, pl j = some p → pr j = some p) : ∀ {ps : List (Nat × V)} {rs : List (Nat × Value)} {cs cs' : List V} {arr : Array Value}, ps.length = rs.length →
    (∀ (j : Nat) (p : Nat × V), ps[j]? = some p → ∃ r, rs[j]? = some (p.1, r) ∧ VR M G p.2 r) → cs.length = arr.size → (∀ j c, cs[j]? = some c → VR M G c (arr.getD j undef)) → fillV (getO ob) pl ps cs = some cs' →
    ∃ arr', Instr.fill pr arr rs = some arr' ∧ cs'.length = arr'.size ∧ ∀ j c, cs'[j]? = some c → VR M G c (arr'.getD j undef) := by
  intro ps
  induction ps with
  | nil =>
    intro rs cs cs' arr hlen _ hl hc h
    have : rs = [] := List.length_eq_zero_iff.1 hlen.symm
    subst this
    simp only [fillV, Option.some.injEq] at h
    subst h
    exact ⟨arr, rfl, hl, hc⟩
  | cons p q ih =>
    intro rs cs cs' arr hlen hps hl hc h
    cases rs with
    | nil => simp at hlen
    | cons rp rs =>
      obtain ⟨j, v⟩ := p
      obtain ⟨r, hr0, hv⟩ := hps 0 (j, v) rfl
      simp only [List.getElem?_cons_zero, Option.some.injEq] at hr0
      subst hr0
      simp only [fillV] at h
      split at h
      · rename_i off size hp
        split at h
        · rename_i hcnd
          obtain ⟨c1, c2, c3⟩ := hcnd
          obtain ⟨d1, d2, d3⟩ := VR.cells I hv c3
          have hrs : r.cells.size = size := by rw [← c1]; exact d1.symm
          have hfit : off + v.cells.length ≤ cs.length := by omega
          have hfold := fun idx => fold_cells r.cells.toList off 0 arr idx (by simp [hrs]; omega)
          let arr2 := (r.cells.toList.zipIdx 0).foldl (fun cs (c, i) => cs.setIfInBounds (off + i) c) arr
          have hsz2 : arr2.size = arr.size := (hfold 0).1
          obtain ⟨arr3, e1, e2, e3⟩ := ih (rs := rs) (arr := arr2) (by simpa using hlen) (fun i p hp => by simpa using hps (i + 1) p hp) (by rw [splice_length _ _ _ hfit, hsz2]; exact hl)
            (fun i c hi => by
              rw [splice_get _ _ _ _ hfit] at hi
              have hg := (hfold i).2
              rw [show arr2.getD i undef = _ from hg]
              by_cases hin : off ≤ i ∧ i < off + v.cells.length
              · rw [if_pos hin] at hi
                rw [if_pos (by simp [hrs]; omega)]
                simpa using d2 _ _ hi
              · rw [if_neg hin] at hi
                rw [if_neg (by simp [hrs]; omega)]
                exact hc _ _ hi) h
          refine ⟨arr3, ?_, e2, e3⟩
          simp only [Instr.fill, hpl _ _ hp]
          rw [if_neg (by simp [hrs]; omega)]
          rw [← Array.foldl_toList, Array.toList_zipIdx]
          exact e1
        · simp at h
      · simp at h

theorem build_sound {T : TypeId} (A : Agree P τ) (I : Inv F n0 w M G ob) {ps : List (Nat × V)} {rs : Array (Nat × Value)} (hlen : ps.length = rs.size) (hps : ∀ (j : Nat) (p : Nat × V), ps[j]? = some p → ∃ r, rs[j]? = some (p.1, r) ∧ VR M G p.2 r)
    {k : K3} (h : opBuild τ (getO ob) T ps = some k) : OpV P w M G k (Instr.build T rs) := by
  unfold opBuild at h
  split at h
  · rename_i i hT
    split at h
    · rename_i fs hd
      split at h
      · rename_i cs hf
        simp only [Option.some.injEq] at h
        subst h
        obtain ⟨pl, p1, p2, p3⟩ := places_run (P := P) (w := w) A fs.toList (fun f hf => A.flds T i fs hT hd f (Array.mem_toList_iff.1 hf))
        have hzc : ∀ j c, (zeroC i)[j]? = some c → VR M G c (i.zero.cells.getD j undef) := by
          intro j c hc
          simp only [zeroC, List.getElem?_map, Option.map_eq_some_iff] at hc
          obtain ⟨x, hx, rfl⟩ := hc
          have : i.zero.cells.getD j undef = x := by simp at hx; simp [hx]
          rw [this]
          exact VR.constC M G x
        obtain ⟨arr, a1, a2, a3⟩ := fillV_sound I (pr := fun j => pl.toArray[j]?) (fun j p hp => by
            unfold placeS at hp
            split at hp
            · rename_i f hf
              split at hp
              · rename_i fi hfi
                simp only [Option.some.injEq] at hp
                subst hp
                have := p3 j f fi (by simpa using hf) hfi
                simpa using this
              · simp at hp
            · simp at hp) (rs := rs.toList) (arr := i.zero.cells) (by simpa using hlen) (by simpa using hps) (by simp [zeroC]) hzc hf
        refine ⟨_, .agg arr, rfl, ?_, .agg _ _ a2 a3⟩
        have hm : (fs.mapM fun f => (do pure (f.offset, ← sizeOf f.type) : Sem (Nat × Nat))).run P w = .ok pl.toArray w := by
          have e : (fs.mapM fun f => (do pure (f.offset, ← sizeOf f.type) : Sem (Nat × Nat))) = List.toArray <$> (fs.toList.mapM fun f => (do pure (f.offset, ← sizeOf f.type) : Sem (Nat × Nat))) := by
            rw [Array.mapM_eq_mapM_toList]
          rw [e, Sem.run_map, p1]
          rfl
        simp only [Instr.build, Sem.run_bind, run_zero A w hT, Result.andThen_ok, run_und A w hT, hd, hm, a1]
        rfl
      · simp at h
    · rename_i nn e hd
      split at h
      · rename_i ei he
        split at h
        · rename_i cs hf
          simp only [Option.some.injEq] at h
          subst h
          have hzc : ∀ j c, (zeroC i)[j]? = some c → VR M G c (i.zero.cells.getD j undef) := by
            intro j c hc
            simp only [zeroC, List.getElem?_map, Option.map_eq_some_iff] at hc
            obtain ⟨x, hx, rfl⟩ := hc
            have : i.zero.cells.getD j undef = x := by simp at hx; simp [hx]
            rw [this]
            exact VR.constC M G x
          obtain ⟨arr, a1, a2, a3⟩ := fillV_sound I (pr := fun j => some (j * ei.size, ei.size)) (fun j p hp => hp) (rs := rs.toList) (arr := i.zero.cells) (by simpa using hlen) (by simpa using hps) (by simp [zeroC]) hzc hf
          refine ⟨_, .agg arr, rfl, ?_, .agg _ _ a2 a3⟩
          simp only [Instr.build, Sem.run_bind, run_zero A w hT, Result.andThen_ok, run_und A w hT, hd, run_size A w he, a1]
          rfl
        · simp at h
      · simp at h
    · simp at h
  · simp at h
end
end Go.Ab
end
section
/- One operation is sound. -/
namespace Go.Ab
open Go
open Go.Pp (nxP decI)

section
variable {P : Program} {τ : TT} {γ : GT} {F : Nat → Prop} {n0 : Nat} {w : World} {M : Mem} {G : Gh} {ob : OT}

def SlotsR (M : Mem) (G : Gh) (sl : List V) (a : Act) : Prop := ∀ t v, sl[t]? = some v → VR M G v (a.tmps.getD t undef)

theorem evO_sound {sl : List V} {a : Act} (h : SlotsR M G sl a) (x : Operand) : VR M G (evO sl x) (a.eval x) := by
  cases x with
  | tmp t =>
    simp only [evO, Act.eval]
    rcases Nat.lt_or_ge t sl.length with hl | hl
    · have := h t sl[t] (by simp [hl])
      simpa [hl, List.getD_eq_getElem?_getD] using this
    · rw [List.getD_eq_getElem?_getD, List.getElem?_eq_none hl]
      exact .junk _
  | const v => exact VR.constV M G v
  | global g => exact .glob g 0
  | func f => exact .fn f [] [] #[] #[] rfl rfl (fun j c h => by simp at h) (fun j c h => by simp at h)

structure StepOk (P : Program) (F : Nat → Prop) (n0 : Nat) (w : World) (M : Mem) (G : Gh) (ob : OT) (nb : Nat) (k : K3) (nx : Next) (x : Value) (w' : World) (M' : Mem) (G' : Gh) (s : Sem Next) : Prop where
  run : s.run P w = .ok nx w'
  res : nx = .value x ∨ (nx = .skip ∧ x = undef)
  m : Mle M M'
  g : Gle G G'
  val : VR M' G' k.1 x
  inv : Inv F n0 w' M' G' (newT ob nb k)
  fr : FrS F n0 w w'
  free : ∀ o, o < ob.length → G o = none → (o ≠ nb ∨ k.2.2 = none) → G' o = none

theorem OpM.stepOk {nb : Nat} {k : K3} {s : Sem Value} (h : OpM P F n0 w M G ob nb k s) : ∃ nx x w' M' G', StepOk P F n0 w M G ob nb k nx x w' M' G' (do pure (.value (← s))) := by
  obtain ⟨x, w', M', G', h1, h2, h3, h4, h5, h6, h7⟩ := h
  exact ⟨.value x, x, w', M', G', ⟨by simp [h1], .inl rfl, h2, h3, h4, h5, h6, h7⟩⟩
theorem OpV.stepOk (I : Inv F n0 w M G ob) {nb : Nat} {k : K3} {s : Sem Value} (h : OpV P w M G k s) : ∃ nx x w' M' G', StepOk P F n0 w M G ob nb k nx x w' M' G' (do pure (.value (← s))) := (h.opM I).stepOk
theorem OpU.stepOk {nb : Nat} {k : K3} {s : Sem Unit} (h : OpU P F n0 w M G ob nb k s) : ∃ nx x w' M' G', StepOk P F n0 w M G ob nb k nx x w' M' G' (do s; pure .skip) := by
  obtain ⟨w', M', G', h1, h2, h3, h4, h5, h6, h7⟩ := h
  exact ⟨.skip, undef, w', M', G', ⟨by simp [h1], .inr ⟨rfl, rfl⟩, h3, h4, by rw [h2]; exact .tup _ _ rfl (fun j c hj => by simp at hj), h5, h6, h7⟩⟩

theorem map_sound {sl : List V} {a : Act} (hs : SlotsR M G sl a) (ps : Array (Nat × Operand)) : (ps.toList.map fun p => (p.1, evO sl p.2)).length = (ps.map fun (i, x) => (i, a.eval x)).size ∧
    ∀ (j : Nat) (p : Nat × V), (ps.toList.map fun p => (p.1, evO sl p.2))[j]? = some p → ∃ r, (ps.map fun (i, x) => (i, a.eval x))[j]? = some (p.1, r) ∧ VR M G p.2 r := by
  refine ⟨by simp, fun j p hp => ?_⟩
  simp only [List.getElem?_map, Option.map_eq_some_iff] at hp
  obtain ⟨q, hq, rfl⟩ := hp
  refine ⟨a.eval q.2, ?_, evO_sound hs q.2⟩
  have : ps[j]? = some q := by simpa using hq
  simp [this]

theorem args_sound {sl : List V} {a : Act} (hs : SlotsR M G sl a) (xs : Array Operand) : (xs.toList.map (evO sl)).length = (xs.map a.eval).size ∧ ∀ j c, (xs.toList.map (evO sl))[j]? = some c → VR M G c ((xs.map a.eval).getD j undef) := by
  refine ⟨by simp, fun j c hc => ?_⟩
  simp only [List.getElem?_map, Option.map_eq_some_iff] at hc
  obtain ⟨q, hq, rfl⟩ := hc
  have : xs[j]? = some q := by simpa using hq
  have e : (xs.map a.eval).getD j undef = a.eval q := by simp [Array.getD_eq_getD_getElem?, this]
  rw [e]
  exact evO_sound hs q

theorem opt_sound {sl : List V} {a : Act} (hs : SlotsR M G sl a) (x : Option Operand) : match x.map (evO sl), x.map a.eval with | some v, some y => VR M G v y | none, none => True | _, _ => False := by
  cases x with
  | none => trivial
  | some x => exact evO_sound hs x

theorem arr_list {α : Type} {xs : Array α} {l : List α} (h : xs.toList = l) : xs = l.toArray := by subst h; simp

theorem args1 {sl : List V} {args : Array Operand} {x : V} (h : args.toList.map (evO sl) = [x]) : ∃ o, args = #[o] ∧ x = evO sl o := by
  match hl : args.toList, h with
  | [o], h => exact ⟨o, arr_list hl, by simpa using h.symm⟩
theorem args2 {sl : List V} {args : Array Operand} {x y : V} (h : args.toList.map (evO sl) = [x, y]) : ∃ o p, args = #[o, p] ∧ x = evO sl o ∧ y = evO sl p := by
  match hl : args.toList, h with
  | [o, p], h => simp at h; exact ⟨o, p, arr_list hl, h.1.symm, h.2.symm⟩
theorem argsN {sl : List V} {args : Array Operand} {x : V} {r : List V} (h : args.toList.map (evO sl) = x :: r) : ∃ o ps, args = (o :: ps).toArray ∧ x = evO sl o ∧ r = ps.map (evO sl) := by
  match hl : args.toList, h with
  | o :: ps, h => simp at h; exact ⟨o, ps, arr_list hl, h.1.symm, h.2.symm⟩

theorem list_sound {sl : List V} {a : Act} (hs : SlotsR M G sl a) (ps : List Operand) : (ps.map (evO sl)).length = (ps.map a.eval).length ∧ ∀ j c, (ps.map (evO sl))[j]? = some c → VR M G c ((ps.map a.eval).getD j undef) := by
  refine ⟨by simp, fun j c hc => ?_⟩
  simp only [List.getElem?_map, Option.map_eq_some_iff] at hc
  obtain ⟨q, hq, rfl⟩ := hc
  have e : (ps.map a.eval).getD j undef = a.eval q := by simp [List.getD_eq_getElem?_getD, hq]
  rw [e]
  exact evO_sound hs q

theorem builtin_sound (A : Agree P τ) (I : Inv F n0 w M G ob) {nb : Nat} (N : Nb G ob nb) (hn : n0 ≤ w.heap.size) {sl : List V} {a : Act} (hs : SlotsR M G sl a) {b : Builtin} {args : Array Operand} {ts : Array TypeId} {k : K3} (ty : TypeId)
    (h : opBuiltin τ (getO ob) nb b ts.toList (args.toList.map (evO sl)) = some k) (consts : Array Bool) : ∃ nx x w' M' G', StepOk P F n0 w M G ob nb k nx x w' M' G' (builtin b ts ty consts (args.map a.eval)) := by
  unfold opBuiltin at h
  split at h
  · rename_i t x ht hx
    obtain ⟨o, rfl, rfl⟩ := args1 hx
    have hts := arr_list ht
    subst hts
    have := (len_sound (P := P) A I (evO_sound hs o) h).stepOk I (nb := nb)
    have e : (Builtin.len_ #[t] ty #[a.eval o]) = (Builtin.len_ #[t] 0 #[a.eval o]) := rfl
    simpa [builtin, e] using this
  · rename_i sT xT s x ht hx
    obtain ⟨o, p, rfl, rfl, rfl⟩ := args2 hx
    have hts := arr_list ht
    subst hts
    split at h
    · rename_i i hi
      split at h
      · rename_i ys hy
        have := (append_sound (P := P) A I N hn hi (evO_sound hs o) (evO_sound hs p) hy h ty).stepOk
        simpa [builtin] using this
      · simp at h
    · simp at h
  · rename_i dT sT d s ht hx
    obtain ⟨o, p, rfl, rfl, rfl⟩ := args2 hx
    have hts := arr_list ht
    subst hts
    have := (copy_sound (P := P) A I (nb := nb) (evO_sound hs o) (evO_sound hs p) h ty).stepOk
    simpa [builtin] using this
  · rename_i T d ht hx
    obtain ⟨o, rfl, rfl⟩ := args1 hx
    have hts := arr_list ht
    subst hts
    have := (clear_sound (P := P) A I (nb := nb) (evO_sound hs o) h ty).stepOk
    simpa [builtin] using this
  · rename_i x r hx
    obtain ⟨o, ps, rfl, rfl, rfl⟩ := argsN hx
    split at h
    · rename_i kk n hl
      have hv := litInt_sound (evO_sound hs o) hl
      obtain ⟨l1, l2⟩ := list_sound hs ps
      have := (minmax_sound (P := P) (w := w) l1 l2 h).stepOk I (nb := nb)
      simp only [if_true] at this
      simpa [builtin, Builtin.max_, hv] using this
    · simp at h
  · rename_i x r hx
    obtain ⟨o, ps, rfl, rfl, rfl⟩ := argsN hx
    split at h
    · rename_i kk n hl
      have hv := litInt_sound (evO_sound hs o) hl
      obtain ⟨l1, l2⟩ := list_sound hs ps
      have := (minmax_sound (P := P) (w := w) l1 l2 h).stepOk I (nb := nb)
      simp only [Bool.false_eq_true, if_false] at this
      simpa [builtin, Builtin.min_, hv] using this
    · simp at h
  · simp at h

theorem newiter (I : Inv F n0 w M G ob) {nb : Nat} (N : Nb G ob nb) (hn : n0 ≤ w.heap.size) (s : ByteArray) (m : Sem Value) (hs : m.run P w = .ok (.pointer (some ⟨w.heap.size, 0, none⟩)) { w with heap := w.heap.push (.stringIter s 0) }) :
    OpM P F n0 w M G ob nb (.ref nb 0, [], some (.iter s 0)) m := by
  have hle : Gle G (setG G nb (.iter w.heap.size)) := Gle.setG (fun g' hg => by rw [N.g] at hg; cases hg)
  refine ⟨_, _, M, setG G nb (.iter w.heap.size), hs, Mle.refl M, hle, .iter _ _ _ (setG_self _ _ _), ?_, FrS.push hn _, fun o _ hg hne => (setG_ne _ _ (hne.resolve_right (by simp))).trans hg⟩
  refine I.new N.g N.lt rfl hn (.iter s 0 w.heap.size (setG_self _ _ _) (by simp)) (fun b hb => ?_)
  simp [blkO, setG_self] at hb
  exact hb.symm

theorem range_sound (A : Agree P τ) (I : Inv F n0 w M G ob) {nb : Nat} (N : Nb G ob nb) (hn : n0 ≤ w.heap.size) {T : TypeId} {v : V} {r : Value} (hv : VR M G v r) {k : K3} (h : opRange τ nb T v = some k) :
    OpM P F n0 w M G ob nb k (Instr.range T r) := by
  unfold opRange at h
  split at h
  · rename_i i hT
    split at h
    · rename_i hd
      split at h
      · rename_i s
        simp only [Option.some.injEq] at h
        subst h
        have hr : r = .string s := by cases hv with | tr hh => cases hh; rfl
        subst hr
        refine newiter I N hn s _ ?_
        simp [Instr.range, run_und A w hT, hd, newObj, Result.andThen, Sem.run]
      · simp at h
    · simp at h
  · simp at h

theorem Inv.writeI (I : Inv F n0 w M G ob) {o b : Nat} {x x' : O} {y : Obj} (ho : getO ob o = some x) (hblk : blkO G o x = some b)
    (hnew : ObR { w with heap := w.heap.setIfInBounds b y } M G o x') (hblk' : blkO G o x' = some b) : Inv F n0 { w with heap := w.heap.setIfInBounds b y } M G (ob.set o (some x')) ∧ FrS F n0 w { w with heap := w.heap.setIfInBounds b y } := by
  have hlt := getO_lt ho
  have hMb := I.off o _ b ho hblk
  have hoth : ∀ b', b' ≠ b → (w.heap.setIfInBounds b y)[b']? = w.heap[b']? := fun b' hb' => Array.getElem?_setIfInBounds_ne (Ne.symm hb')
  have hne : ∀ o' x b', o' ≠ o → getO ob o' = some x → blkO G o' x = some b' → b' ≠ b := fun o' x b' hne h1 h2 hbb' => by subst hbb'; exact hne (I.dis o' o x _ b' h1 ho h2 hblk)
  refine ⟨I.upd (Mle.refl M) (Gle.refl G) (fun _ _ => rfl) (fun o' x b' hn' h1 h2 => hoth b' (hne o' x b' hn' h1 h2)) (fun b' y hy => ?_) (fun o' x b' _ h1 h2 => I.off o' x b' h1 h2) hnew (fun b' hb' => ?_) hlt,
    ⟨rfl, rfl, rfl, by simp, fun b' hb' hF => ?_⟩⟩
  · have : b' ≠ b := fun e => by subst e; rw [hMb] at hy; cases hy
    show (w.heap.setIfInBounds b _)[b']? = _
    rw [hoth b' this]; exact I.mem b' y hy
  · rw [hblk'] at hb'
    cases hb'
    exact ⟨I.own o _ _ ho hblk, hMb, fun o' x hn' h1 h2 => hne o' x _ hn' h1 h2 rfl⟩
  · have : b' ≠ b := fun e => by subst e; rcases I.own o _ _ ho hblk with h | h; exact hF h; omega
    exact hoth b' this

theorem next_sound (I : Inv F n0 w M G ob) {nb : Nat} {v : V} {r : Value} {T : TypeId} (hv : VR M G v r) {k : K3} (h : opNext (getO ob) v = some k) :
    OpM P F n0 w M G ob nb k (Instr.next r true T) := by
  unfold opNext at h
  split at h
  · rename_i o
    split at h
    · rename_i s pos ho
      simp only [Option.some.injEq] at h
      subst h
      have hobj := I.obj o _ ho
      cases hobj with
      | iter _ _ b hg hw =>
        have hre : r = .pointer (some ⟨b, 0, none⟩) := by
          cases hv with
          | ref _ _ b' hg' => rw [hg] at hg'; cases hg'
          | iter _ _ b' hg' => rw [hg] at hg'; cases hg'; rfl
        subst hre
        have hlt : b < w.heap.size := (Array.getElem?_eq_some_iff.1 hw).1
        have hget : (getObj b).run P w = .ok (.stringIter s pos) w := by simp [getObj, Sem.run, hw]
        by_cases hp : pos < s.size
        · obtain ⟨I2, F2⟩ := I.writeI (b := b) (y := .stringIter s (pos + (Utf8.decode s pos).2)) (x' := .iter s (nxP s pos)) ho (by simp [blkO, hg]) (.iter s (nxP s pos) b hg (by simp [nxP, hp, hlt])) (by simp [blkO, hg])
          refine ⟨.tuple #[.bool true, goInt pos, .int .i32 (decI s pos)], _, M, G, ?_, Mle.refl _, Gle.refl _, ?_, by simpa [newT, upds] using I2, F2, fun _ _ h _ => h⟩
          · have hset : ∀ y, (setObj b y).run P w = .ok () { w with heap := w.heap.setIfInBounds b y } := fun y => by simp [setObj, Sem.run, hw]
            simp [Instr.next, hget, hp, hset, Result.andThen, decI]
          · have : nxT s pos = [vbool true, vint .i64 pos, vint .i32 (decI s pos)] := by simp [nxT, hp]
            rw [this]
            refine .tup _ _ rfl (fun j c hj => ?_)
            match j, hj with
            | 0, hj => simp at hj; subst hj; exact .tr (.lit _ rfl)
            | 1, hj => simp at hj; subst hj; exact .tr (.lit _ rfl)
            | 2, hj => simp at hj; subst hj; exact .tr (.lit _ rfl)
        · have e1 : nxP s pos = pos := by simp [nxP, hp]
          have e2 : nxT s pos = [vbool false] := by simp [nxT, hp]
          have e3 : ob.set o (some (.iter s pos)) = ob := by
            refine List.ext_getElem? (fun j => ?_)
            by_cases hj : j = o
            · subst hj
              have hl := getO_lt ho
              rw [List.getElem?_set_self hl]
              unfold getO at ho
              rw [List.getElem?_eq_getElem hl] at ho ⊢
              simp at ho
              rw [ho]
            · rw [List.getElem?_set_ne (Ne.symm hj)]
          refine ⟨.tuple #[.bool false], w, M, G, ?_, Mle.refl _, Gle.refl _, ?_, by simpa [newT, upds, e1, e3] using I, FrS.refl _ _ _, fun _ _ h _ => h⟩
          · simp [Instr.next, hget, hp, Result.andThen]
          · rw [e2]
            refine .tup _ _ rfl (fun j c hj => ?_)
            match j, hj with
            | 0, hj => simp at hj; subst hj; exact .tr (.lit _ rfl)
    · simp at h
  · simp at h

/- maps -/
theorem newobj (I : Inv F n0 w M G ob) {nb : Nat} (N : Nb G ob nb) (hn : n0 ≤ w.heap.size) {y : Obj} {x : O} {v : V} {r : Value} (m : Sem Value) (hv : VR M (setG G nb (.iter w.heap.size)) v r)
    (hx : ObR { w with heap := w.heap.push y } M (setG G nb (.iter w.heap.size)) nb x) (hb : ∀ b, blkO (setG G nb (.iter w.heap.size)) nb x = some b → b = w.heap.size) (hs : m.run P w = .ok r { w with heap := w.heap.push y }) :
    OpM P F n0 w M G ob nb (v, [], some x) m := by
  have hle : Gle G (setG G nb (.iter w.heap.size)) := Gle.setG (fun g' hg => by rw [N.g] at hg; cases hg)
  refine ⟨_, _, M, setG G nb (.iter w.heap.size), hs, Mle.refl M, hle, hv, ?_, FrS.push hn _, fun o _ hg hne => (setG_ne _ _ (hne.resolve_right (by simp))).trans hg⟩
  exact I.new N.g N.lt rfl hn hx hb

theorem mapT_spec {T : TypeId} {ei : TI} (h : mapT τ T = some ei) : ∃ i k e ki, τ T = some i ∧ i.d = .map k e ∧ τ k = some ki ∧ ki.d = .int .i64 ∧ τ e = some ei := by
  unfold mapT at h
  split at h
  · rename_i i hT
    split at h
    · rename_i k e hd
      split at h
      · rename_i ki hk
        split at h
        · rename_i hkd; exact ⟨i, k, e, ki, hT, hd, hk, hkd, h⟩
        · cases h
      · cases h
    · cases h
  · cases h
theorem litI64_sound {v : V} {r : Value} (h : VR M G v r) {n : Int} (hl : litI64 v = some n) : r = .int .i64 n := by
  unfold litI64 at hl
  split at hl
  · simp only [Option.some.injEq] at hl; subst hl
    cases h with | tr hh => cases hh; rfl
  · cases hl
theorem findK_spec {n : Int} : ∀ {ks : List Int} {j : Nat}, findK n ks = some j → ks[j]? = some n
  | [], j, h => by simp [findK] at h
  | k :: r, j, h => by
    unfold findK at h
    split at h
    · rename_i hk; simp only [Option.some.injEq] at h; subst h; simp [hk]
    · rw [Option.map_eq_some_iff] at h
      obtain ⟨i, hi, rfl⟩ := h
      simpa using findK_spec hi
theorem findNow_ok (n : Int) : ∀ (es : List MapEntry) (ks : List Int) (i0 : Nat), es.map (·.key) = ks.map (.int .i64) →
    Instr.findNow (.int .i64) (.int .i64 n) es i0 = some ((findK n ks).map fun j => (i0 + j, (es.map (·.val)).getD j undef))
  | [], ks, i0, h => by
    cases ks with
    | nil => rfl
    | cons => simp at h
  | e :: es, ks, i0, h => by
    cases ks with
    | nil => simp at h
    | cons k ks =>
      simp only [List.map_cons, List.cons.injEq] at h
      obtain ⟨h1, h2⟩ := h
      unfold Instr.findNow findK
      rw [h1]
      simp only [Instr.sameNow, if_true]
      by_cases hk : n = k
      · subst hk; simp
      · have : (n == k) = false := by simpa using hk
        rw [this, if_neg hk]
        simp only
        rw [findNow_ok n es ks (i0 + 1) h2]
        cases findK n ks with
        | none => rfl
        | some j => simp; omega
theorem run_getO {b : Nat} {y : Obj} (hw : w.heap[b]? = some y) (hn : (match y with | .cells .. => false | _ => true) = true := by rfl) : (getObj b).run P w = .ok y w := by
  cases y <;> simp_all [getObj, Sem.run]
theorem run_check (A : Agree P τ) {k : TypeId} {ki : TI} (hk : τ k = some ki) (hd : ki.d = .int .i64) (b : Bool) (n : Int) : (Instr.checkKey b 10000 k (.int .i64 n)).run P w = .ok () w := by
  rw [show (10000 : Nat) = 9999 + 1 from rfl, Instr.checkKey]
  simp [run_und A w hk, hd]
theorem run_find (A : Agree P τ) {k : TypeId} {ki : TI} (hk : τ k = some ki) (hd : ki.d = .int .i64) {es : List MapEntry} {ks : List Int} (n : Int) (h : es.map (·.key) = ks.map (.int .i64)) :
    (Instr.findKey k (.int .i64 n) es).run P w = .ok ((findK n ks).map fun j => (j, (es.map (·.val)).getD j undef)) w := by
  unfold Instr.findKey
  have := findNow_ok n es ks 0 h
  simp only [Nat.zero_add] at this
  simp [run_und A w hk, hd, this]

theorem VR.wk1c {v : V} {r : Value} (h : VR M G v r) : VR M G (wk1c v) r := by
  unfold Ab.wk1c
  split
  · cases h with
    | tr ht => cases ht with
      | nil _ _ a c hc => exact .tr (.nil 1 false a c (fun h => by cases h))
      | sl _ _ _ b off c f hc hle hk hm ht => exact .tr (.nil 1 false _ c (fun h => by cases h))
  · exact h
theorem VR.wk1 {v : V} {r : Value} (h : VR M G v r) : VR M G (wk1 v) r := by
  unfold Ab.wk1
  split
  · cases h with
    | agg cs vs hl hh =>
      refine .agg _ vs (by simpa using hl) (fun j c hj => ?_)
      rw [List.getElem?_map, Option.map_eq_some_iff] at hj
      obtain ⟨d, hd, rfl⟩ := hj
      exact (hh j d hd).wk1c
  · exact h.wk1c
theorem makeMap_sound (I : Inv F n0 w M G ob) {nb : Nat} (N : Nb G ob nb) (hn : n0 ≤ w.heap.size) {T : TypeId} {k : K3} (h : opMakeMap τ nb T = some k) : OpM P F n0 w M G ob nb k (Instr.makeMap T none) := by
  unfold opMakeMap at h
  split at h
  · simp only [Option.some.injEq] at h; subst h
    refine newobj I N hn (y := .map #[] 0) _ (.mp _ _ (setG_self _ _ _)) (.mp [] [] w.heap.size #[] (setG_self _ _ _) (by simp) rfl rfl rfl (fun j c hj => by simp at hj)) (fun b hb => ?_) ?_
    · simp [blkO, setG_self] at hb; exact hb.symm
    · simp [Instr.makeMap, newObj, Result.andThen, Sem.run]
  · cases h

theorem rangeM_sound (A : Agree P τ) (I : Inv F n0 w M G ob) {nb : Nat} (N : Nb G ob nb) (hn : n0 ≤ w.heap.size) {T : TypeId} {v : V} {r : Value} (hv : VR M G v r) {k : K3} (h : opRangeM τ (getO ob) nb T v = some k) :
    OpM P F n0 w M G ob nb k (Instr.range T r) := by
  unfold opRangeM at h
  split at h
  · rename_i ei o hT
    obtain ⟨i, kk, e, ki, h1, h2, h3, h4, h5⟩ := mapT_spec hT
    split at h
    · rename_i ks vs ho
      simp only [Option.some.injEq] at h; subst h
      have hobj := I.obj o _ ho
      cases hobj with
      | mp _ _ b es hg hw hk hbn hl hh =>
        cases hv with
        | mp _ b' hg' =>
          rw [hg] at hg'; cases hg'
          have hne : o ≠ nb := fun e => by subst e; rw [N.g] at hg; cases hg
          have hsz : ks.length = es.size := by have := congrArg List.length hk; simpa using this.symm
          refine newobj I N hn (y := .mapIter (some b) es.size #[] es.size) _ (.iter _ _ _ (setG_self _ _ _)) ?_ (fun b hb => ?_) ?_
          · rw [hsz]; exact .mit o es.size [] w.heap.size b (setG_self _ _ _) (by rw [setG_ne _ _ hne]; exact hg) (by simp)
          · simp [blkO, setG_self] at hb; exact hb.symm
          · simp [Instr.range, run_und A w h1, h2, run_getO hw, newObj, Result.andThen, Sem.run, hw, getObj]
    · cases h
  · cases h

theorem lookup_sound (A : Agree P τ) (I : Inv F n0 w M G ob) {T : TypeId} {x y : V} {r s : Value} (hx : VR M G x r) (hy : VR M G y s) {ok : Bool} {k : K3} (h : opLookup τ (getO ob) T x y ok = some k) :
    OpV P w M G k (Instr.lookup T r s ok) := by
  unfold opLookup at h
  split at h
  · rename_i ei o n hT hn
    obtain ⟨i, kk, e, ki, h1, h2, h3, h4, h5⟩ := mapT_spec hT
    have hs := litI64_sound hy hn
    subst hs
    split at h
    · rename_i ks vs ho
      simp only [Option.some.injEq] at h; subst h
      have hobj := I.obj o _ ho
      cases hobj with
      | mp _ _ b es hg hw hk hbn hl hh =>
        cases hx with
        | mp _ b' hg' =>
          rw [hg] at hg'; cases hg'
          have hrun : ∀ (v : Value) (q : Bool), (match (findK n ks).map fun j => (j, (es.toList.map (·.val)).getD j undef) with | some (_, v) => (v, true) | none => (ei.zero, false)) = (v, q) →
              (Instr.lookup T (.map (some b)) (.int .i64 n) ok).run P w = .ok (if ok then .tuple #[v, .bool q] else v) w := by
            intro v q hvq
            cases hf : findK n ks with
            | none =>
              rw [hf] at hvq
              simp only [Option.map_none, Prod.mk.injEq] at hvq
              obtain ⟨rfl, rfl⟩ := hvq
              simp [Instr.lookup, run_und A w h1, h2, run_getO hw, run_check A h3 h4, run_find A h3 h4 n hk, hf, run_zero A w h5]
            | some j =>
              rw [hf] at hvq
              simp only [Option.map_some, Prod.mk.injEq] at hvq
              obtain ⟨rfl, rfl⟩ := hvq
              simp [Instr.lookup, run_und A w h1, h2, run_getO hw, run_check A h3 h4, run_find A h3 h4 n hk, hf]
          have hval : ∃ v q, (match (findK n ks).map fun j => (j, (es.toList.map (·.val)).getD j undef) with | some (_, v) => (v, true) | none => (ei.zero, false)) = (v, q) ∧ VR M G (getM (zeroW ei) n ks vs).1 v ∧ (getM (zeroW ei) n ks vs).2 = q := by
            unfold getM
            cases hf : findK n ks with
            | none => exact ⟨ei.zero, false, rfl, (VR.constV M G _).wk1, rfl⟩
            | some j =>
              refine ⟨_, true, rfl, ?_, rfl⟩
              have hj := findK_spec hf
              have hjl : j < vs.length := by
                have := (List.getElem?_eq_some_iff.1 hj).1
                have h6 := congrArg List.length hk
                simp at h6; omega
              have := hh j vs[j] (by simp [hjl])
              have e1 : vs.getD j .junk = vs[j] := by simp [List.getD_eq_getElem?_getD, hjl]
              have e2 : (es.toList.map (·.val)).getD j undef = (es.map (·.val)).getD j undef := by
                simp [List.getD_eq_getElem?_getD, Array.getD_eq_getD_getElem?]
              show VR M G (vs.getD j .junk) _
              rw [e1, e2]; exact this
          obtain ⟨v, q, hvq, hV, hq⟩ := hval
          cases ok with
          | false => exact ⟨_, v, rfl, hrun v q hvq, hV⟩
          | true =>
            refine ⟨_, _, rfl, hrun v q hvq, ?_⟩
            refine .tup _ _ rfl (fun j c hj => ?_)
            match j, hj with
            | 0, hj => simp at hj; subst hj; simpa using hV
            | 1, hj => simp at hj; subst hj; rw [hq]; exact .tr (.lit _ rfl)
    · cases h
  · cases h

theorem mapPut_sound (A : Agree P τ) (I : Inv F n0 w M G ob) {nb : Nat} {T : TypeId} {x y v : V} {r s q : Value} (hx : VR M G x r) (hy : VR M G y s) (hv : VR M G v q) {k : K3} (h : opMapPut τ (getO ob) T x y v = some k) :
    OpU P F n0 w M G ob nb k (Instr.mapUpdate T r s q) := by
  unfold opMapPut at h
  split at h
  · rename_i ei o n hT hn
    obtain ⟨i, kk, e, ki, h1, h2, h3, h4, h5⟩ := mapT_spec hT
    have hs := litI64_sound hy hn
    subst hs
    replace hv := hv.wk1
    generalize wk1 v = v at hv h
    split at h
    · rename_i ks vs ho
      simp only [Option.some.injEq] at h; subst h
      have hobj := I.obj o _ ho
      cases hobj with
      | mp _ _ b es hg hw hk hbn hl hh =>
        cases hx with
        | mp _ b' hg' =>
          rw [hg] at hg'; cases hg'
          have hlt : b < w.heap.size := (Array.getElem?_eq_some_iff.1 hw).1
          have hset : ∀ y, (setObj b y).run P w = .ok () { w with heap := w.heap.setIfInBounds b y } := fun y => by simp [setObj, Sem.run, hw]
          have hkl : ks.length = es.size := by have := congrArg List.length hk; simpa using this.symm
          cases hf : findK n ks with
          | some j =>
            have hj := findK_spec hf
            have hjl : j < es.size := by have := (List.getElem?_eq_some_iff.1 hj).1; omega
            have hkey : es[j].key = .int .i64 n := by
              have h6 := congrArg (fun l => l[j]?) hk
              simp only [List.getElem?_map, hj, Option.map_some] at h6
              rw [List.getElem?_eq_getElem (by simpa using hjl)] at h6
              simpa using h6
            have hnew : ObR { w with heap := w.heap.setIfInBounds b (.map (es.modify j fun e => { e with key := .int .i64 n, val := q }) es.size) } M G o (.mp ks (vs.set j v)) := by
              refine .mp ks (vs.set j v) b (es.modify j fun e => { e with key := .int .i64 n, val := q }) hg (by simp [hlt]) ?_ ?_ (by simpa using hl) (fun t c ht => ?_)
              · rw [← hk]
                apply List.ext_getElem?
                intro t
                simp only [List.getElem?_map, Array.toList_modify, List.getElem?_modify]
                by_cases hjt : j = t
                · subst hjt
                  simp [hjl, hkey]
                · simp [hjt]
              · simp only [Array.size_modify]
                rw [← hbn]
                apply List.ext_getElem?
                intro t
                simp only [List.getElem?_map, Array.toList_modify, List.getElem?_modify]
                by_cases hjt : j = t
                · subst hjt; simp [hjl]
                · simp [hjt]
              · by_cases hjt : j = t
                · subst hjt
                  rw [List.getElem?_set_self (by omega)] at ht
                  simp only [Option.some.injEq] at ht; subst ht
                  have : ((es.modify j fun e => { e with key := .int .i64 n, val := q }).map (·.val)).getD j undef = q := by
                    simp [Array.getD_eq_getD_getElem?, Array.getElem_modify, hjl]
                  rw [this]; exact hv
                · rw [List.getElem?_set_ne hjt] at ht
                  have := hh t c ht
                  have e1 : ((es.modify j fun e => { e with key := .int .i64 n, val := q }).map (·.val)).getD t undef = (es.map (·.val)).getD t undef := by
                    simp [Array.getD_eq_getD_getElem?, Array.getElem?_modify, hjt]
                  rw [e1]; exact this
            obtain ⟨I2, F2⟩ := I.writeI (b := b) ho (by simp [blkO, hg]) hnew (by simp [blkO, hg])
            refine ⟨_, M, G, ?_, rfl, Mle.refl _, Gle.refl _, by simpa [newT, upds, putM, hf] using I2, F2, fun _ _ h _ => h⟩
            have hsb : Instr.sameBits 10000 (.int .i64 n) (.int .i64 n) = true := by simp [Instr.sameBits]
            simp [Instr.mapUpdate, run_und A w h1, h2, run_getO hw, run_check A h3 h4, run_find A h3 h4 n hk, hf, hset, Instr.keyThatStays, hjl, hkey, hsb]
          | none =>
            have hnew : ObR { w with heap := w.heap.setIfInBounds b (.map (es.push { key := .int .i64 n, val := q, born := es.size }) (es.size + 1)) } M G o (.mp (ks ++ [n]) (vs ++ [v])) := by
              refine .mp _ _ b (es.push { key := .int .i64 n, val := q, born := es.size }) hg (by simp [hlt]) (by simp [hk]) (by simp [hbn, List.range_succ]) (by simp [hl]) (fun t c ht => ?_)
              by_cases htl : t < vs.length
              · rw [List.getElem?_append_left htl] at ht
                have := hh t c ht
                have e1 : ((es.push { key := .int .i64 n, val := q, born := es.size }).map (·.val)).getD t undef = (es.map (·.val)).getD t undef := by
                  have : t < es.size := by omega
                  simp [Array.getD_eq_getD_getElem?, Array.getElem?_push, this, show t ≠ es.size by omega]
                rw [e1]; exact this
              · rw [List.getElem?_append_right (by omega)] at ht
                have ht2 := (List.getElem?_eq_some_iff.1 ht).1
                simp only [List.length_singleton] at ht2
                have : t = es.size := by omega
                subst this
                have e0 : es.size - vs.length = 0 := by omega
                rw [e0] at ht
                simp at ht; subst ht
                have e1 : ((es.push { key := .int .i64 n, val := q, born := es.size }).map (·.val)).getD es.size undef = q := by
                  simp [Array.getD_eq_getD_getElem?, Array.getElem_push]
                rw [e1]; exact hv
            obtain ⟨I2, F2⟩ := I.writeI (b := b) ho (by simp [blkO, hg]) hnew (by simp [blkO, hg])
            refine ⟨_, M, G, ?_, rfl, Mle.refl _, Gle.refl _, by simpa [newT, upds, putM, hf] using I2, F2, fun _ _ h _ => h⟩
            simp [Instr.mapUpdate, run_und A w h1, h2, run_getO hw, run_check A h3 h4, run_find A h3 h4 n hk, hf, hset]
    · cases h
  · cases h

theorem find_ix : ∀ (l : List MapEntry) (j i : Nat), l.map (·.born) = List.range' i l.length → (hj : j < l.length) → l.find? (·.born == i + j) = some l[j]
  | e :: l, 0, i, h, hj => by
    simp [List.range'_succ] at h
    simp [h.1]
  | e :: l, j + 1, i, h, hj => by
    simp [List.range'_succ] at h
    have : (e.born == i + (j + 1)) = false := by simp; omega
    rw [List.find?_cons, this]
    simp only [List.getElem_cons_succ]
    have := find_ix l j (i + 1) h.2 (by simpa using hj)
    rw [← this]
    congr 1
    funext x
    rw [show i + (j + 1) = i + 1 + j by omega]
theorem entry_sound (I : Inv F n0 w M G ob) {v : V} {r : Value} (hv : VR M G v r) {k : K3} (h : opEntry (getO ob) v = some k) : OpV P w M G k (Instr.entry r) := by
  unfold opEntry at h
  split at h
  · rename_i o
    split at h
    · rename_i m c seen ho
      split at h
      · rename_i ks vs j hm hj
        split at h
        · rename_i hlen
          split at h
          · rename_i kk vv hk hvv
            simp only [Option.some.injEq] at h; subst h
            cases I.obj o _ ho with
            | mit _ _ _ b bm hg hgm hw =>
              cases I.obj m _ hm with
              | mp _ _ b2 es hg2 hw2 hks hbn hl hh =>
                rw [hg2] at hgm; cases hgm
                have hre : r = .pointer (some ⟨b, 0, none⟩) := by
                  cases hv with
                  | ref _ _ b' hg' => rw [hg] at hg'; cases hg'
                  | iter _ _ b' hg' => rw [hg] at hg'; cases hg'; rfl
                subst hre
                have hsz : ks.length = es.size := by have := congrArg List.length hks; simpa using this.symm
                have hjk := (List.getElem?_eq_some_iff.1 hk).1
                have hj' : j < es.size := by omega
                have hback : seen.toArray.back? = some j := by rw [List.back?_toArray]; exact hj
                have hfind : es.find? (·.born == j) = some es[j] := by
                  rw [← Array.find?_toList]
                  have := find_ix es.toList j 0 (by rw [hbn, List.range_eq_range']; simp) (by simpa using hj')
                  simpa using this
                have hkey : es[j].key = .int .i64 kk := by
                  have h6 := congrArg (fun l => l[j]?) hks
                  simp only [List.getElem?_map, hk, Option.map_some] at h6
                  rw [List.getElem?_eq_getElem (by simpa using hj')] at h6
                  simpa using h6
                have hvr := hh j vv hvv
                have e1 : (es.map (·.val)).getD j undef = es[j].val := by simp [Array.getD_eq_getD_getElem?, hj']
                rw [e1] at hvr
                have hcl : (es.size != c) = false := by simp; omega
                refine ⟨_, .tuple #[.int .i64 kk, es[j].val], rfl, ?_, .tup _ _ rfl (fun t d ht => ?_)⟩
                · simp [Instr.entry, run_getO hw, run_getO hw2, hback, hfind, hkey, show ¬ (es.size ≠ c) by omega]
                · match t, ht with
                  | 0, ht => simp at ht; subst ht; exact .tr (.lit _ rfl)
                  | 1, ht => simp at ht; subst ht; exact hvr
          · cases h
        · cases h
      · cases h
    · cases h
  · cases h

theorem litBool_sound {t : Bool} {r : Value} (h : VR M G (vbool t) r) : r = .bool t := by cases h with | tr hh => cases hh; rfl

theorem step_sound (A : Agree P τ) (hγ : Glob γ M) (I : Inv F n0 w M G ob) {nb : Nat} (N : Nb G ob nb) (hn : n0 ≤ w.heap.size) {sl : List V} {a : Act} (hs : SlotsR M G sl a) {o : Oper} {k : K3}
    (h : step τ γ sl (getO ob) nb o.op = some k) : ∃ nx x w' M' G', StepOk P F n0 w M G ob nb k nx x w' M' G' (execOp a.eval o) := by
  obtain ⟨dst, op, ty, pos, after, guard⟩ := o
  simp only at h
  unfold step at h
  split at h
  · rename_i x
    simp only [Option.some.injEq] at h; subst h
    exact ⟨_, _, w, M, G, ⟨rfl, .inl rfl, Mle.refl _, Gle.refl _, evO_sound hs x, I, FrS.refl _ _ _, fun _ _ h _ => h⟩⟩
  · rename_i x
    simp only [Option.some.injEq] at h; subst h
    exact ⟨_, _, w, M, G, ⟨rfl, .inl rfl, Mle.refl _, Gle.refl _, evO_sound hs x, I, FrS.refl _ _ _, fun _ _ h _ => h⟩⟩
  · rename_i c x y
    split at h
    · rename_i t ht
      simp only [Option.some.injEq] at h; subst h
      have hc := evO_sound hs c
      rw [ht] at hc
      have hcv : a.eval c = .bool t := litBool_sound hc
      refine ⟨.value (if t then a.eval x else a.eval y), _, w, M, G, ⟨by simp [execOp, hcv, asBool], .inl rfl, Mle.refl _, Gle.refl _, ?_, I, FrS.refl _ _ _, fun _ _ h _ => h⟩⟩
      cases t
      · exact evO_sound hs y
      · exact evO_sound hs x
    · simp at h
  · rename_i T
    split at h
    · rename_i i hT
      simp only [Option.some.injEq] at h; subst h
      exact (alloc_sound (P := P) A hT I N hn).stepOk
    · simp at h
  · rename_i T x
    split at h
    · rename_i h1
      simp only [Option.some.injEq] at h; subst h
      exact (box_sound (P := P) (T := T) I N hn (evO_sound hs x) h1).stepOk
    · simp at h
  · rename_i T ps
    obtain ⟨m1, m2⟩ := map_sound hs ps
    exact (build_sound (P := P) A I m1 m2 h).stepOk I
  · rename_i T n ps
    obtain ⟨m1, m2⟩ := map_sound hs ps
    exact (buildSlice_sound (P := P) A I N hn m1 m2 h).stepOk
  · rename_i T x
    exact OpV.stepOk I (load_sound (P := P) A I hγ (evO_sound hs x) h)
  · rename_i T x v
    exact (store_sound (P := P) A I (evO_sound hs x) (evO_sound hs v) h).stepOk
  · rename_i x
    obtain ⟨v, h1, h2, h3⟩ := nil_sound (evO_sound hs x) h
    subst h1
    refine ⟨.value (a.eval x), a.eval x, w, M, G, ⟨?_, .inl rfl, Mle.refl _, Gle.refl _, h2, I, FrS.refl _ _ _, fun _ _ h _ => h⟩⟩
    rcases h3 with ⟨q, h3⟩ | ⟨f, xs, ys, h3⟩ <;> simp [execOp, h3]
  · rename_i op' T x y yT
    exact (bin_sound (P := P) A (evO_sound hs x) (evO_sound hs y) x y h).stepOk I
  · rename_i op' T x
    exact (un_sound (P := P) (evO_sound hs x) h).stepOk I
  · rename_i S D x
    exact (convS_sound (P := P) A I hn (evO_sound hs x) h).stepOk
  · rename_i f fs cs
    simp only [Option.some.injEq] at h; subst h
    obtain ⟨a1, a2⟩ := args_sound hs fs
    obtain ⟨b1, b2⟩ := args_sound hs cs
    exact ⟨.value (.func (.func f) (fs.map a.eval) (cs.map a.eval)), _, w, M, G, ⟨by simp [execOp, Instr.makeFunc], .inl rfl, Mle.refl _, Gle.refl _, .fn _ _ _ _ _ a1 b1 a2 b2, I, FrS.refl _ _ _, fun _ _ h _ => h⟩⟩
  · rename_i T l c
    exact (make_sound (P := P) A I N hn (evO_sound hs l) (evO_sound hs c) h).stepOk
  · rename_i T x lo hi mx
    exact (slice_sound (P := P) A I (evO_sound hs x) (opt_sound hs lo) (opt_sound hs hi) (opt_sound hs mx) h).stepOk I
  · rename_i T x f
    exact (fieldAddr_sound (P := P) A (evO_sound hs x) h).stepOk I
  · rename_i T x f
    exact (field_sound (P := P) A (evO_sound hs x) h).stepOk I
  · rename_i T x ix
    exact (indexAddr_sound (P := P) A I (evO_sound hs x) (evO_sound hs ix) h).stepOk I
  · rename_i T x ix
    exact (index_sound (P := P) A (evO_sound hs x) (evO_sound hs ix) h).stepOk I
  · rename_i t j
    exact (extract_sound (P := P) (evO_sound hs t) h).stepOk I
  · rename_i b args ts
    exact builtin_sound (P := P) A I N hn hs ty h _
  · rename_i T x
    unfold opRangeA at h
    split at h
    · rename_i oo ho
      have := evO_sound hs x
      rw [ho] at this
      exact (rangeM_sound (P := P) A I N hn this h).stepOk
    · exact (range_sound (P := P) A I N hn (evO_sound hs x) h).stepOk
  · rename_i T
    exact (makeMap_sound (P := P) I N hn h).stepOk
  · rename_i T m k v
    exact (mapPut_sound (P := P) A I (evO_sound hs m) (evO_sound hs k) (evO_sound hs v) h).stepOk
  · rename_i T m k v
    exact (mapPut_sound (P := P) A I (evO_sound hs m) (evO_sound hs k) (evO_sound hs v) h).stepOk
  · rename_i T x k ok
    exact (lookup_sound (P := P) A I (evO_sound hs x) (evO_sound hs k) h).stepOk I
  · rename_i x
    exact (next_sound (P := P) I (evO_sound hs x) h).stepOk
  · rename_i x
    exact (entry_sound (P := P) I (evO_sound hs x) h).stepOk I
  · simp at h
end
end Go.Ab
end
