/- Each function computes what its plain one says, part 4 -/
import Derived.BigRegion
import Derived.Test.YtmceiidhhpcjkaaDoorFK3
set_option linter.all false
section
/- The fixed fact of the laws of kinds: its walk. -/
namespace Go.Pf
open Go Go.Ab Go.Pp Go.Proofs Go.Proofs.S08
set_option maxRecDepth 100000
structure IsTiny (w w1 : World) (c : Nat) : Prop where
  h : w1 = tinyW w c
theorem drew_heap (w : World) : w.drew.heap = w.heap := rfl
theorem set_heap (w : World) (b o : Nat) (v : Value) (i : Nat) : (w.setCell ⟨b, o, none⟩ v).heap[i]? = if b = i then (w.heap[i]?).map (fun x => match x with | .cells c elem frozen => .cells (c.setIfInBounds o v) elem frozen | o => o) else w.heap[i]? := by
  simp only [World.setCell, Array.getElem?_modify, Option.isSome_none, Bool.false_eq_true, if_false]
  split <;> rfl
theorem set_cells {w : World} {b o : Nat} {v : Value} {arr : Array Value} {T : TypeId} {fr : Nat × Nat} (h : w.heap[b]? = some (.cells arr T fr)) : (w.setCell ⟨b, o, none⟩ v).heap[b]? = some (.cells (arr.setIfInBounds o v) T fr) := by
  rw [set_heap, if_pos rfl, h]; rfl
theorem set_else {w : World} {b o : Nat} {v : Value} {i : Nat} {x : Obj} (hne : b ≠ i) (h : w.heap[i]? = some x) : (w.setCell ⟨b, o, none⟩ v).heap[i]? = some x := by
  rw [set_heap, if_neg hne, h]
theorem set_size (w : World) (a : Addr) (v : Value) : (w.setCell a v).heap.size = w.heap.size := by simp [World.setCell]
theorem SameW.set {w w1 : World} (h : SameW w w1) {b o : Nat} {v : Value} (hb : w.heap.size ≤ b) : SameW w (w1.setCell ⟨b, o, none⟩ v) :=
  ⟨h.os, h.tape, h.output, by rw [set_size]; exact h.size, fun i hi => by rw [set_heap, if_neg (by omega)]; exact h.block i hi⟩
theorem SameW.alR {w w1 : World} (h : SameW w w1) (o : Obj) : SameW w (w1.alloc o) := SameW.trans h (SameW.alloc w1 o)
theorem SameW.drewR {w w1 : World} (h : SameW w w1) : SameW w w1.drew := ⟨h.os, h.tape, h.output, h.size, h.block⟩
structure PAt (w : World) (n : Nat) (k l c : Nat) (op : Int) : Prop where
  hf : w.heap[n + 7]? = some (.cells #[.slice (some ⟨n + 4, 0, none⟩) 3 3, .slice (some ⟨n + 5, 0, none⟩) 3 3, .int .i64 0, .int .i64 0, .slice (some ⟨n + 6, 0, none⟩) 1 1] 35)
  hb : w.heap[n + 6]? = some (.cells #[.slice (some ⟨n + 3, k, none⟩) l c] 38)
  hc : ∃ z, w.heap[n + 3]? = some (.cells (#[.int .i64 10, .int .i64 1, .int .i64 0, .int .i64 0, .int .i64 0, .int .i64 2, .slice none 0 0, .int .i64 op, .int .i64 2, .int .i64 1, .int .i64 0, .int .i64 0, .int .i64 0, .slice none 0 0, .int .i64 17, .int .i64 0, .int .i64 2, .int .i64 0, .int .i64 0, .int .i64 0, .slice none 0 0, .int .i64 23, .int .i64 0, .int .i64 0, .int .i64 0, .int .i64 0, .int .i64 0, .slice none 0 0] ++ z) 27)
  hk : w.heap[n + 4]? = some (.cells #[.int .i64 0, .int .i64 1, .int .i64 2] 3)
  ha : w.heap[n + 5]? = some (.cells #[.int .i64 (-1), .int .i64 (-1), .int .i64 1] 3)
theorem PAt.same {w w' : World} {n k l c : Nat} {op : Int} (h : PAt w n k l c op) (hs : SameW w w') : PAt w' n k l c op := by
  have lt : ∀ {b : Nat} {y : Obj}, w.heap[b]? = some y → w'.heap[b]? = some y := fun {b y} hb => by rw [hs.block b (Array.getElem?_eq_some_iff.1 hb).1]; exact hb
  obtain ⟨z, h1⟩ := h.hc
  exact ⟨lt h.hf, lt h.hb, ⟨z, lt h1⟩, lt h.hk, lt h.ha⟩
theorem tiny_size (w : World) (c : Nat) : (tinyW w c).heap.size = w.heap.size + 8 := by
  simp only [tinyW, drew_heap, al_size]
theorem IsTiny.size {w w1 : World} {c : Nat} (h : IsTiny w w1 c) : w1.heap.size = w.heap.size + 8 := by
  rw [h.h]; exact tiny_size w c
theorem IsTiny.same {w w1 : World} {c : Nat} (h : IsTiny w w1 c) : SameW w w1 := by
  rw [h.h]; unfold tinyW
  exact SameW.drewR (SameW.alR (SameW.alR (SameW.alR (SameW.alR (SameW.alR (SameW.alR (SameW.alR (SameW.alloc w _) _) _) _) _) _) _) _)
theorem IsTiny.at {w w1 : World} {c : Nat} (h : IsTiny w w1 c) : PAt w1 w.heap.size 0 4 c 15 := by
  rw [h.h]; unfold tinyW
  refine ⟨?_, ?_, ⟨Builtin.zeroCells #[Value.int IntKind.i64 0, Value.int IntKind.i64 0, Value.int IntKind.i64 0, Value.int IntKind.i64 0, Value.int IntKind.i64 0, Value.int IntKind.i64 0, Value.slice none 0 0] (c - 4), ?_⟩, ?_, ?_⟩
  all_goals rw [drew_heap]
  all_goals simp only [al_get, al_size, Nat.add_assoc, Nat.reduceAdd, Nat.add_left_cancel_iff, Nat.reduceEqDiff, if_true, if_false, reduceIte, Nat.reduceEqDiff, Array.append_assoc]
  rw [← Array.append_assoc]; rfl
theorem PAt.alloc {w : World} {n k l c : Nat} {op : Int} (h : PAt w n k l c op) (o : Obj) : PAt (w.alloc o) n k l c op := h.same (SameW.alloc w o)
theorem cell_heap {w : World} {b : Nat} {arr : Array Value} {T : TypeId} {fr : Nat × Nat} (h : w.heap[b]? = some (.cells arr T fr)) (off : Nat) : w.cell? ⟨b, off, none⟩ = arr[off]? := by
  simp [World.cell?, h]
theorem froz_heap {w : World} {b : Nat} {arr : Array Value} {T : TypeId} (h : w.heap[b]? = some (.cells arr T)) (off : Nat) : w.frozen? ⟨b, off, none⟩ = false := by
  simp [World.frozen?, h]
theorem PAt.cut {w : World} {n c : Nat} (h : PAt w n 0 4 c 15) : PAt (w.setCell ⟨n + 6, 0, none⟩ (.slice (some ⟨n + 3, 7, none⟩) 3 (c - 1))) n 7 3 (c - 1) 15 := by
  obtain ⟨z, h1⟩ := h.hc
  exact ⟨set_else (by omega) h.hf, set_cells h.hb, ⟨z, set_else (by omega) h1⟩, set_else (by omega) h.hk, set_else (by omega) h.ha⟩
theorem PAt.op {w : World} {n c : Nat} (h : PAt w n 0 4 c 15) : PAt (w.setCell ⟨n + 3, 7, none⟩ (.int .i64 2)) n 0 4 c 2 := by
  obtain ⟨z, h1⟩ := h.hc
  refine ⟨set_else (by omega) h.hf, set_else (by omega) h.hb, ⟨z, ?_⟩, set_else (by omega) h.hk, set_else (by omega) h.ha⟩
  rw [set_cells h1]
  rw [Array.setIfInBounds, dif_pos (by simp; omega), Array.set_append, dif_pos (by simp)]
  rfl
theorem PAt.set {w : World} {n k l c b o : Nat} {op : Int} {v : Value} (h : PAt w n k l c op) (hb : n + 8 ≤ b) : PAt (w.setCell ⟨b, o, none⟩ v) n k l c op := by
  obtain ⟨z, h1⟩ := h.hc
  exact ⟨set_else (by omega) h.hf, set_else (by omega) h.hb, ⟨z, set_else (by omega) h1⟩, set_else (by omega) h.hk, set_else (by omega) h.ha⟩
theorem PAt.atQ {w : World} {n c : Nat} (h : PAt w n 0 4 c 2) (hc : 4 ≤ c) : At w (n + 7) (n + 6) (n + 3) (n + 4) (n + 5) 0 c codeQ := by
  obtain ⟨z, h1⟩ := h.hc
  refine ⟨h.hf, h.hb, ⟨_, h1, fun k v hk => ?_⟩, h.hk, h.ha, hc, by decide⟩
  rw [Array.getElem?_append_left (by have := (List.getElem?_eq_some_iff.1 hk).1; simpa [codeQ, insC] using this)]
  simpa [codeQ, insC] using hk
theorem PAt.atP {w : World} {n c : Nat} (h : PAt w n 7 3 c 15) (hc : 3 ≤ c) : At w (n + 7) (n + 6) (n + 3) (n + 4) (n + 5) 7 c codeP := by
  obtain ⟨z, h1⟩ := h.hc
  refine ⟨h.hf, h.hb, ⟨_, h1, fun k v hk => ?_⟩, h.hk, h.ha, hc, by decide⟩
  have hlt : k < 21 := by have := (List.getElem?_eq_some_iff.1 hk).1; simpa [codeP, insC] using this
  rw [Array.getElem?_append_left (by simp; omega)]
  rw [List.getElem?_toArray]
  have : ∀ l : List Value, l[7 + k]? = (l.drop 7)[k]? := fun l => by rw [List.getElem?_drop]
  rw [this]
  simpa [codeP, insC] using hk
theorem PAt.drewR {w : World} {n k l c : Nat} {op : Int} (h : PAt w n k l c op) : PAt w.drew n k l c op := ⟨h.hf, h.hb, h.hc, h.hk, h.ha⟩
theorem lt_same {w w' : World} (hs : SameW w w') {b : Nat} {y : Obj} (hb : w.heap[b]? = some y) : w'.heap[b]? = some y := by rw [hs.block b (Array.getElem?_eq_some_iff.1 hb).1]; exact hb
theorem calls_of_validV {L : Lg} {f : FuncId} {vs : List V} {v : V} (hv : Valid L f vs [] v []) {W : World} {args : Array Value} (hg : Glob L.γ (memOf W)) (hl : vs.length = args.size)
    (ha : ∀ j c, vs[j]? = some c → VR (memOf W) (fun _ => none) c (args.getD j undef)) : Calls L.P f args W fun e W' => ∃ r M' G', e = .returned r ∧ (∀ b x, M' b = some x → W'.heap[b]? = some x) ∧ VR M' G' v r ∧ SameW W W' := by
  have I : Inv (FB (fun _ => none) []) W.heap.size W (memOf W) (fun _ => none) [] :=
    ⟨fun b y h => h, fun o y h => by simp [getO] at h, fun o o' y y' b h => by simp [getO] at h, fun o y b h => by simp [getO] at h, fun o y b h => by simp [getO] at h, fun o g h => by cases h⟩
  refine (hv.2.2 W (memOf W) (fun _ => none) args I hg hl ha).mono ?_
  rintro e w' ⟨r, M', G', rfl, _, _, hr, I', fr, _⟩
  refine ⟨r, M', G', rfl, I'.mem, hr, fr.os, fr.tape, fr.output, fr.size, fun b hb => fr.block b hb ?_⟩
  rintro ⟨o, y, h, _⟩
  simp [getO] at h
theorem tiny_tr {w : World} {b : Bool} {code : List Ins} (hg : Glob gam (memOf w)) (hp : portolanlaw08_tiny b = some ⟨[fT code]⟩) :
    Calls Tryd.prog 18 #[.bool b] w fun e w' => ∃ v, e = .returned (.agg #[v]) ∧ TR (memOf w') (.sl 5 false (List.map e_Func [fT code])) v ∧ SameW w w' := by
  have hv := portolanlaw08_tiny_ok gam [] hp
  have hv' := Valid.toFv (res' := .agg [.tr (.sl 5 false (List.map e_Func [fT code]))]) (ks := [(0, none)]) (l' := [none]) hv rfl rfl (by simp)
  refine (calls_of_validV hv' (W := w) (args := #[.bool b]) hg rfl (fun j c hj => ?_)).mono ?_
  · match j, hj with
    | 0, hj => simp at hj; subst hj; exact .tr (.lit _ rfl)
    | j + 1, hj => simp at hj
  · rintro e w' ⟨r, M', G', rfl, hm, hr, hs⟩
    cases hr with
    | agg cs vs hl h =>
      have h0 := h 0 _ rfl
      cases h0 with
      | tr ht =>
        refine ⟨vs.getD 0 undef, ?_, ht.mono hm, hs⟩
        congr 2
        match vs, hl with
        | ⟨[a]⟩, _ => rfl
theorem check_tr {w : World} {v : Value} {code : List Ins} {r : Int} (hg : Glob gam (memOf w)) (h : TR (memOf w) (.sl 5 false (List.map e_Func [fT code])) v) (hr : kind_Check ⟨[fT code]⟩ = some r) :
    Calls Tryd.prog 12 #[.agg #[v]] w fun e w' => e = .returned (.int .i64 r) ∧ SameW w w' := by
  refine calls_of_valid (L := Lx gam) (kind_Check_ok gam [] hr) hg rfl (fun j c hj => ?_)
  match j, hj with
  | 0, hj =>
    simp at hj; subst hj
    exact .agg _ _ rfl (fun j c hj => by
      match j, hj with
      | 0, hj => simp at hj; subst hj; exact .tr h
      | j + 1, hj => simp at hj)
  | j + 1, hj => simp at hj
theorem tinyF : portolanlaw08_tiny false = some ⟨[fT codeF]⟩ := by decide +kernel
theorem tinyT : portolanlaw08_tiny true = some ⟨[fT codeT]⟩ := by decide +kernel
theorem alive_calls (w : World) (hg : Glob gam (memOf w)) : Calls Tryd.prog 6 #[] w fun e w' => e = .returned (.bool true) ∧ SameW w w' := by
  go_enter Tryd.func6, Tryd.ntmps6
  go_wp2_with (go_at_call 18; refine (tiny_callsF _).mono ?_; rintro e w1 ⟨rfl, c, hc, hw1⟩; replace hw1 := IsTiny.mk hw1)
  have P1 := hw1.at.alloc (.cells #[.slice (some ⟨w.heap.size + 7, 0, none⟩) 1 1] 24)
  have S1 := SameW.alR hw1.same (.cells #[.slice (some ⟨w.heap.size + 7, 0, none⟩) 1 1] 24)
  have H1 : (w1.alloc (.cells #[.slice (some ⟨w.heap.size + 7, 0, none⟩) 1 1] 24)).heap[w1.heap.size]? = some (.cells #[.slice (some ⟨w.heap.size + 7, 0, none⟩) 1 1] 24) := by rw [al_get, if_pos rfl]
  generalize w1.alloc (.cells #[.slice (some ⟨w.heap.size + 7, 0, none⟩) 1 1] 24) = w2 at P1 S1 H1 ⊢
  have c1 := cell_heap H1 0
  have c2 := cell_heap P1.hf 4
  have c3 := cell_heap P1.hb 0
  have z3 := froz_heap P1.hb 0
  simp only [List.getElem?_toArray, List.getElem?_cons_succ, List.getElem?_cons_zero] at c1 c2 c3
  go_region
  clear c1 c2 c3 z3
  have S3 := SameW.drewR (SameW.set (v := .slice (some ⟨w.heap.size + 3, 7, none⟩) 3 (c - 1)) (o := 0) S1 (Nat.le_add_right w.heap.size 6))
  have P3 := P1.cut.drewR
  have H3 : ((w2.setCell ⟨w.heap.size + 6, 0, none⟩ (.slice (some ⟨w.heap.size + 3, 7, none⟩) 3 (c - 1))).drew).heap[w1.heap.size]? = some (.cells #[.slice (some ⟨w.heap.size + 7, 0, none⟩) 1 1] 24) := set_else (by have := hw1.size; omega) H1
  have Z : w.heap.size + 8 = w1.heap.size := hw1.size.symm
  replace Z : ∃ p, p = w1.heap.size ∧ w.heap.size + 8 ≤ p := ⟨_, rfl, Nat.le_of_eq Z⟩
  obtain ⟨p, hp, Z⟩ := Z
  rw [← hp] at H3 ⊢
  generalize (w2.setCell ⟨w.heap.size + 6, 0, none⟩ (.slice (some ⟨w.heap.size + 3, 7, none⟩) 3 (c - 1))).drew = w3 at S3 P3 H3 ⊢
  clear hw1 P1 S1 H1 hp w1 w2
  go_wp2_with (go_at_call 18; refine (tiny_callsF w3).mono ?_; rintro e w4 ⟨rfl, d, hd, hw4⟩; replace hw4 := IsTiny.mk hw4
               have P4 := hw4.at.alloc (.cells #[.slice (some ⟨w3.heap.size + 7, 0, none⟩) 1 1] 24)
               obtain ⟨z, hz⟩ := P4.hc
               have c2 := cell_heap P4.hf 4
               have c3 := cell_heap P4.hb 0
               have c4 := cell_heap hz 7
               have z4 := froz_heap hz 7
               rw [Array.getElem?_append_left (by simp)] at c4
               simp only [List.getElem?_toArray, List.getElem?_cons_succ, List.getElem?_cons_zero] at c2 c3 c4
               clear hz)
  clear c2 c3 c4 z4 z
  have S4 := SameW.alR hw4.same (.cells #[.slice (some ⟨w3.heap.size + 7, 0, none⟩) 1 1] 24)
  have H4 : (w4.alloc (.cells #[.slice (some ⟨w3.heap.size + 7, 0, none⟩) 1 1] 24)).heap[w4.heap.size]? = some (.cells #[.slice (some ⟨w3.heap.size + 7, 0, none⟩) 1 1] 24) := by rw [al_get, if_pos rfl]
  generalize w4.alloc (.cells #[.slice (some ⟨w3.heap.size + 7, 0, none⟩) 1 1] 24) = w5 at P4 S4 H4 ⊢
  have hp := (Array.getElem?_eq_some_iff.1 H3).1
  have hq := hw4.size
  have S5 := SameW.set (v := .int .i64 2) (o := 7) S4 (Nat.le_add_right w3.heap.size 3)
  have P5 := P4.op
  have H5 : (w5.setCell ⟨w3.heap.size + 3, 7, none⟩ (.int .i64 2)).heap[w4.heap.size]? = some (.cells #[.slice (some ⟨w3.heap.size + 7, 0, none⟩) 1 1] 24) := set_else (by omega) H4
  generalize (w5.setCell ⟨w3.heap.size + 3, 7, none⟩ (.int .i64 2)) = w6 at S5 P5 H5 ⊢
  have P3' := P3.same S5
  have H3' := lt_same S5 H3
  have S6 := SameW.trans S3 S5
  generalize w3.heap.size = m at P5 H5 ⊢
  generalize w4.heap.size = q at H5 ⊢
  clear hw4 P4 S4 H4 hp hq S5 P3 S3 H3 w4 w5 w3
  have X := tiny_tr (Glob.same hg S6) tinyF
  refine Calls.mono X ?_
  rintro e w7 ⟨v, rfl, hT, hs⟩
  clear X
  have S7 := SameW.trans S6 hs
  replace P5 := P5.same hs
  replace H5 := lt_same hs H5
  replace P3' := P3'.same hs
  replace H3' := lt_same hs H3'
  clear hs S6 w6
  go_wp2_with (fail)
  have X := check_tr (Glob.same hg S7) hT plainF
  refine Calls.mono X ?_
  rintro e w8 ⟨rfl, hs⟩
  clear X
  have S8 := SameW.trans S7 hs
  replace P5 := P5.same hs
  replace H5 := lt_same hs H5
  replace P3' := P3'.same hs
  replace H3' := lt_same hs H3'
  clear hs S7 hT w7
  go_wp2_with (fail)
  have X := tiny_tr (Glob.same hg S8) tinyT
  refine Calls.mono X ?_
  rintro e w7 ⟨v, rfl, hT, hs⟩
  clear X
  have S7 := SameW.trans S8 hs
  replace P5 := P5.same hs
  replace H5 := lt_same hs H5
  replace P3' := P3'.same hs
  replace H3' := lt_same hs H3'
  clear hs S8 w8
  go_wp2_with (fail)
  have X := check_tr (Glob.same hg S7) hT plainT
  refine Calls.mono X ?_
  rintro e w8 ⟨rfl, hs⟩
  clear X
  have S8 := SameW.trans S7 hs
  replace P5 := P5.same hs
  replace H5 := lt_same hs H5
  replace P3' := P3'.same hs
  replace H3' := lt_same hs H3'
  clear hs S7 hT w7
  have c1 := cell_heap H3' 0
  simp only [List.getElem?_toArray, List.getElem?_cons_succ, List.getElem?_cons_zero] at c1
  go_wp2_with (fail)
  clear c1
  have X := check_calls (Glob.same hg S8) (P3'.atP (by omega)) plainP
  refine Calls.mono X ?_
  rintro e w9 ⟨rfl, hs⟩
  clear X
  have S9 := SameW.trans S8 hs
  replace P5 := P5.same hs
  replace H5 := lt_same hs H5
  clear hs S8 P3' H3' w8
  have c1 := cell_heap H5 0
  simp only [List.getElem?_toArray, List.getElem?_cons_succ, List.getElem?_cons_zero] at c1
  go_wp2_with (fail)
  clear c1
  have X := check_calls (Glob.same hg S9) (P5.atQ hd) plainQ
  refine Calls.mono X ?_
  rintro e w8 ⟨rfl, hs⟩
  clear X
  have S8 := SameW.trans S9 hs
  clear hs S9 P5 H5 w9
  go_wp2
  go_ret
  exact ⟨rfl, S8⟩
theorem Inv.same {F : Nat → Prop} {n0 : Nat} {w w' : World} {M : Mem} {G : Gh} {ob : OT} (I : Inv F n0 w M G ob) (hs : SameW w w') : Inv F n0 w' M G ob :=
  ⟨fun b x hb => by rw [hs.block b (I.memlt hb)]; exact I.mem b x hb, fun o x hx => (I.obj o x hx).mono (Mle.refl _) (Gle.refl _) rfl (fun b hb => hs.block b (I.lt hx hb)), I.dis, I.off, I.own, I.dom⟩
theorem portolanlaw08_alive_ok (γ : GT) (ob : OT) {r : Bool} (h : portolanlaw08_alive = some r) : Valid (Lx γ) 6 [] ob (vbool r) ob := by
  cases h
  refine ⟨⟨⟨Tryd.f6, Tryd.func6, by kernel_rfl, rfl⟩⟩, Nat.le_refl _, fun w M G rs I hg hl ha => ?_⟩
  have : rs = #[] := Array.eq_empty_of_size_eq_zero hl.symm
  subst this
  refine (alive_calls w (hg.mono fun b x hb => I.mem b x hb)).mono ?_
  rintro e w' ⟨rfl, hs⟩
  exact ⟨_, M, G, rfl, Mle.refl _, Gle.refl _, .tr (.lit _ rfl), Inv.same I hs, ⟨hs.os, hs.tape, hs.output, hs.size, fun b hb _ => hs.block b hb⟩, fun _ _ h => h⟩
end Go.Pf
end
section
set_option maxRecDepth 100000
namespace Go.Pf
open Go Go.Ab Go.Pp Go.Proofs Go.Proofs.S08
attribute [local go_sem] Lxτ Lxγ gam0 gam1 Int.toNat_natCast  eI eB eS e_Ins e_Block e_Func e_Prog e_kind_state eL_Intu64

end Go.Pf
end
section
set_option maxRecDepth 100000
namespace Go.Pf
open Go Go.Ab Go.Pp Go.Proofs Go.Proofs.S08
attribute [local go_sem] Lxτ Lxγ gam0 gam1 Int.toNat_natCast List.append_eq List.cons_append List.nil_append tau3 tau22 tau24 tau25 tau27 tau33 tau35 tau36 tau38 eI eB eS e_Ins e_Block e_Func e_Prog e_kind_state eL_Intu64
set_option maxHeartbeats 1000000 in
theorem portolanref03_Great_ok (γ : GT) (ob : OT) {a0 : Prog} {v0_0 : V} (hv0_0 : rdK (getO ob) 5 v0_0 = some (List.map e_Func a0.Funcs)) {r : Bool} (h : portolanref03_Great a0 = some r) :
  Valid (Lx γ) 19 [V.agg [v0_0]] ob (vbool r) ob := by
 refine valid_X (lx_ok γ) (fn := Tryd.f19) (rs := [.tmp 2]) Tryd.func19 (by kernel_rfl) rfl rfl Tryd.ntmps19 rfl (by simp) fun hb hob => ?_
 have hq := rd4 hv0_0
 rw [portolanref03_Great] at h
 refine X_sr (lx_ok γ) ?_
 simp -implicitDefEqProofs only [go_sem, seval, hq]
 refine X_sr (lx_ok γ) ?_
 simp -implicitDefEqProofs only [go_sem, seval, hq]
 refine X_seq ?_
 refine X_sr (lx_ok γ) ?_
 simp -implicitDefEqProofs only [go_sem, seval, hq]
 refine X_jq (J := fun as1 ob1 => ∃ (x1 : Int), portolanref03_Great.k1 x1 = some r ∧ [(3, vint .i64 x1)] = as1 ∧ ob = ob1) ?_ ?_
 ·rintro as1 ob1 ⟨x1, h, rfl, rfl⟩
  rw [portolanref03_Great.k1] at h
  simp -implicitDefEqProofs only [go_sem, seval, hq]
  refine X_sr (lx_ok γ) ?_
  simp -implicitDefEqProofs only [go_sem, seval, hq]
  obtain rfl := sI h
  refine X_ret ?_
  simp -implicitDefEqProofs only [go_sem, seval, hq]
  exact Rt.mv1 (BaseR.refl hob) (by simp) (vS)
 ·refine X_block ?_
  obtain ⟨lr1, hl1, hk1, hr1⟩ := aft2 h
  refine X_forN hl1 (fun (i1 : Nat) (s : Int) as1 ob1 => [(1, V.ref ob.length 0), (3, vint .i64 s), (4, vint .i64 (i1 : Int))] = as1 ∧ ob ++ [some (O.box [v0_0])] = ob1) ⟨_, _, ?_, rfl, rfl⟩ ?_ ?_
  ·exact To.mv [(0, 0)] (BaseR.refl hob) (by simp) (by decide) (by simp only [go_sem]; exact ⟨VM.refA (j := 0) (t := 0) rfl, vS, VM.eqv (by simp) (by simp)⟩) ⟨⟨_, rfl, OM.box _ _ ⟨VM.self (by simpa using Bd.of_rdK hv0_0), trivial⟩⟩, trivial⟩
  ·rintro i1 x1 o1 hi1 hw1 h ho1 as1 ob1 ⟨rfl, rfl⟩
   rw [portolanref03_Great.b1] at h
   refine X_seq ?_
   refine X_sr (lx_ok γ) ?_
   simp -implicitDefEqProofs only [go_sem, seval, hi1, hq]
   cases f1 : decide (x1 ≤ 3000)
   ·rw [if_neg (nF f1)] at h
    refine X_cond (lx_ok γ) ?_
    simp -implicitDefEqProofs only [go_sem, seval, hi1, f1, hq]
    obtain rfl := sI h
    have h := hk1 _ (.inr (ho1 (fun _ hs => nomatch hs)))
    refine X_exit ?_
    try simp -implicitDefEqProofs only [go_sem, ↓reduceIte, Nat.reduceEqDiff, reduceCtorEq]
    refine kJ_in ?_ ⟨x1, h, rfl, rfl⟩
    exact To.mv0 (BaseR.refl hob) (by simp) (by simp only [go_sem]; exact vS)
   ·rw [if_pos f1] at h
    refine X_cond (lx_ok γ) ?_
    simp -implicitDefEqProofs only [go_sem, seval, hi1, f1, hq]
    refine X_skip ?_
    try simp -implicitDefEqProofs only [go_sem]
    refine X_seq ?_
    refine X_block ?_
    refine X_sr (lx_ok γ) ?_
    obtain ⟨x3, f2, h⟩ := bindE h
    obtain ⟨f3, f4⟩ := ixL_nat f2
    have f5 : (0 : Int) ≤ (i1 : Int) := Int.natCast_nonneg _
    simp -implicitDefEqProofs only [go_sem, seval, hi1, f1, hq, f3, f4, f5]
    refine X_sr (lx_ok γ) ?_
    simp -implicitDefEqProofs only [go_sem, seval, hi1, f1, hq]
    refine X_sr (lx_ok γ) ?_
    simp -implicitDefEqProofs only [go_sem, seval, hi1, f1, hq]
    refine X_jq (J := fun as1 ob1 => ∃ (x4 : Int), portolanref03_Great.k2 x4 = some o1 ∧ [(1, V.ref ob.length 0), (3, vint .i64 x4), (4, vint .i64 (i1 : Int))] = as1 ∧ ob ++ [some (O.box [v0_0])] = ob1) ?_ ?_
    ·rintro as1 ob1 ⟨x4, h, rfl, rfl⟩
     rw [portolanref03_Great.k2] at h
     simp -implicitDefEqProofs only [go_sem, seval, hi1, f1, hq]
     refine X_reg (lx_ok γ) ?_
     obtain rfl := sI h
     simp -implicitDefEqProofs only [go_sem, seval, hi1, f1, hq]
     refine kR_in rfl ?_ ⟨rfl, rfl⟩
     exact To.mv [(0, 0)] (BaseR.refl hob) (by simp) (by decide) (by simp only [go_sem]; exact ⟨VM.refA (j := 0) (t := 0) rfl, vS, VM.eqv (by rw [hw1]) (by simp)⟩) ⟨⟨_, rfl, OM.box _ _ ⟨VM.self (by simpa using Bd.of_rdK hv0_0), trivial⟩⟩, trivial⟩
    ·refine X_block ?_
     obtain ⟨lr2, hl2, hk2, hr2⟩ := aft2 h
     refine X_forN hl2 (fun (i2 : Nat) (s : Int) as1 ob1 => [(1, V.ref ob.length 0), (3, vint .i64 s), (4, vint .i64 (i1 : Int)), (5, V.ref (ob.length + 1) 0), (6, vint .i64 (i2 : Int))] = as1 ∧ ob ++ [some (O.box [v0_0]), some (O.box [V.tr (.sl 1 false (List.map (eI .i64) x3.Kinds)), V.tr (.sl 1 false (List.map (eI .i64) x3.Base)), vint .i64 x3.Params, vint .i64 x3.Result, V.tr (.sl 1 false (List.map e_Block x3.Blocks))])] = ob1) ⟨_, _, ?_, rfl, rfl⟩ ?_ ?_
     ·exact To.mv [(0, 0), (1, 0)] (BaseR.refl hob) (by simp) (by decide) (by simp only [go_sem]; exact ⟨VM.refA (j := 0) (t := 0) rfl, vS, vS, VM.refA (j := 1) (t := 1) rfl, VM.eqv (by simp) (by simp)⟩) ⟨⟨_, rfl, OM.box _ _ ⟨VM.self (by simpa using Bd.of_rdK hv0_0), trivial⟩⟩, ⟨_, rfl, OM.box _ _ ⟨vS, vS, vS, vS, vS, trivial⟩⟩, trivial⟩
     ·rintro i2 x4 o2 hi2 hw2 h ho2 as1 ob1 ⟨rfl, rfl⟩
      rw [portolanref03_Great.b2] at h
      refine X_seq ?_
      refine X_sr (lx_ok γ) ?_
      simp -implicitDefEqProofs only [go_sem, seval, hi1, f1, hi2, hq]
      cases f6 : decide (x4 ≤ 3000)
      ·rw [if_neg (nF f6)] at h
       refine X_cond (lx_ok γ) ?_
       simp -implicitDefEqProofs only [go_sem, seval, hi1, f1, hi2, f6, hq]
       obtain rfl := sI h
       have h := hk2 _ (.inr (ho2 (fun _ hs => nomatch hs)))
       refine X_exit ?_
       try simp -implicitDefEqProofs only [go_sem, ↓reduceIte, Nat.reduceEqDiff, reduceCtorEq]
       refine kJ_in ?_ ⟨x4, h, rfl, rfl⟩
       exact To.mv [(0, 0)] (BaseR.refl hob) (by simp) (by decide) (by simp only [go_sem]; exact ⟨VM.refA (j := 0) (t := 0) rfl, vS, vS⟩) ⟨⟨_, rfl, OM.box _ _ ⟨VM.self (by simpa using Bd.of_rdK hv0_0), trivial⟩⟩, trivial⟩
      ·rw [if_pos f6] at h
       refine X_cond (lx_ok γ) ?_
       simp -implicitDefEqProofs only [go_sem, seval, hi1, f1, hi2, f6, hq]
       refine X_skip ?_
       try simp -implicitDefEqProofs only [go_sem]
       refine X_seq ?_
       refine X_block ?_
       refine X_sr (lx_ok γ) ?_
       obtain ⟨x6, f7, h⟩ := bindE h
       obtain ⟨f8, f9⟩ := ixL_nat f7
       have f10 : (0 : Int) ≤ (i2 : Int) := Int.natCast_nonneg _
       simp -implicitDefEqProofs only [go_sem, seval, hi1, f1, hi2, f6, hq, f8, f9, f10]
       refine X_sr (lx_ok γ) ?_
       simp -implicitDefEqProofs only [go_sem, seval, hi1, f1, hi2, f6, hq]
       refine X_jq (J := fun as1 ob1 => ∃ (x7 : Int), portolanref03_Great.k3 x7 = some o2 ∧ [(1, V.ref ob.length 0), (3, vint .i64 x7), (4, vint .i64 (i1 : Int)), (5, V.ref (ob.length + 1) 0), (6, vint .i64 (i2 : Int))] = as1 ∧ ob ++ [some (O.box [v0_0]), some (O.box [V.tr (.sl 1 false (List.map (eI .i64) x3.Kinds)), V.tr (.sl 1 false (List.map (eI .i64) x3.Base)), vint .i64 x3.Params, vint .i64 x3.Result, V.tr (.sl 1 false (List.map e_Block x3.Blocks))])] = ob1) ?_ ?_
       ·rintro as1 ob1 ⟨x7, h, rfl, rfl⟩
        rw [portolanref03_Great.k3] at h
        simp -implicitDefEqProofs only [go_sem, seval, hi1, f1, hi2, f6, hq]
        refine X_reg (lx_ok γ) ?_
        obtain rfl := sI h
        simp -implicitDefEqProofs only [go_sem, seval, hi1, f1, hi2, f6, hq]
        refine kR_in rfl ?_ ⟨rfl, rfl⟩
        exact To.mv [(0, 0), (1, 0)] (BaseR.refl hob) (by simp) (by decide) (by simp only [go_sem]; exact ⟨VM.refA (j := 0) (t := 0) rfl, vS, vS, VM.refA (j := 1) (t := 1) rfl, VM.eqv (by rw [hw2]) (by simp)⟩) ⟨⟨_, rfl, OM.box _ _ ⟨VM.self (by simpa using Bd.of_rdK hv0_0), trivial⟩⟩, ⟨_, rfl, OM.box _ _ ⟨vS, vS, vS, vS, vS, trivial⟩⟩, trivial⟩
       ·refine X_block ?_
        obtain ⟨lr3, hl3, hk3, hr3⟩ := aft2 h
        refine X_while hl3 (fun (s : Int × Int) as1 ob1 => [(1, V.ref ob.length 0), (3, vint .i64 s.1), (4, vint .i64 (i1 : Int)), (5, V.ref (ob.length + 1) 0), (6, vint .i64 (i2 : Int)), (7, vint .i64 s.2)] = as1 ∧ ob ++ [some (O.box [v0_0]), some (O.box [V.tr (.sl 1 false (List.map (eI .i64) x3.Kinds)), V.tr (.sl 1 false (List.map (eI .i64) x3.Base)), vint .i64 x3.Params, vint .i64 x3.Result, V.tr (.sl 1 false (List.map e_Block x3.Blocks))])] = ob1) ⟨_, _, ?_, rfl, rfl⟩ ?_
        ·exact To.mv [(0, 0), (1, 0)] (BaseR.refl hob) (by simp) (by decide) (by simp only [go_sem]; exact ⟨VM.refA (j := 0) (t := 0) rfl, vS, vS, VM.refA (j := 1) (t := 1) rfl, vS, vS⟩) ⟨⟨_, rfl, OM.box _ _ ⟨VM.self (by simpa using Bd.of_rdK hv0_0), trivial⟩⟩, ⟨_, rfl, OM.box _ _ ⟨vS, vS, vS, vS, vS, trivial⟩⟩, trivial⟩
        ·rintro ⟨x7, x8⟩ o3 h ho3 as1 ob1 ⟨rfl, rfl⟩
         rw [portolanref03_Great.b3] at h
         refine X_seq ?_
         refine X_seq ?_
         refine X_jq (J := fun as1 ob1 => ∃ (x10 : Bool), portolanref03_Great.j1 x3 x7 x8 x10 i2 = some o3 ∧ [(1, V.ref ob.length 0), (3, vint .i64 x7), (4, vint .i64 (i1 : Int)), (5, V.ref (ob.length + 1) 0), (6, vint .i64 (i2 : Int)), (7, vint .i64 x8), (72, vbool x10)] = as1 ∧ ob ++ [some (O.box [v0_0]), some (O.box [V.tr (.sl 1 false (List.map (eI .i64) x3.Kinds)), V.tr (.sl 1 false (List.map (eI .i64) x3.Base)), vint .i64 x3.Params, vint .i64 x3.Result, V.tr (.sl 1 false (List.map e_Block x3.Blocks))])] = ob1) ?_ ?_
         ·rintro as1 ob1 ⟨x10, h, rfl, rfl⟩
          rw [portolanref03_Great.j1] at h
          simp -implicitDefEqProofs only [go_sem, seval, hi1, f1, hi2, f6, hq]
          cases f11 : x10
          ·rw [if_neg (nF f11)] at h
           refine X_cond (lx_ok γ) ?_
           simp -implicitDefEqProofs only [go_sem, seval, hi1, f1, hi2, f6, f11, hq]
           obtain rfl := sI h
           have h := hk3 _ (.inr (ho3 (fun _ hs => nomatch hs)))
           refine X_exit ?_
           try simp -implicitDefEqProofs only [go_sem, ↓reduceIte, Nat.reduceEqDiff, reduceCtorEq]
           refine kJ_in ?_ ⟨x7, h, rfl, rfl⟩
           exact To.mv [(0, 0), (1, 0)] (BaseR.refl hob) (by simp) (by decide) (by simp only [go_sem]; exact ⟨VM.refA (j := 0) (t := 0) rfl, vS, vS, VM.refA (j := 1) (t := 1) rfl, vS⟩) ⟨⟨_, rfl, OM.box _ _ ⟨VM.self (by simpa using Bd.of_rdK hv0_0), trivial⟩⟩, ⟨_, rfl, OM.box _ _ ⟨vS, vS, vS, vS, vS, trivial⟩⟩, trivial⟩
          ·rw [if_pos f11] at h
           refine X_cond (lx_ok γ) ?_
           simp -implicitDefEqProofs only [go_sem, seval, hi1, f1, hi2, f6, f11, hq]
           refine X_skip ?_
           try simp -implicitDefEqProofs only [go_sem]
           refine X_seq ?_
           refine X_block ?_
           refine X_reg (lx_ok γ) ?_
           obtain ⟨x11, f12, h⟩ := bindE h
           obtain ⟨f13, f14⟩ := ixL_nat f12
           have f15 : (0 : Int) ≤ (i2 : Int) := Int.natCast_nonneg _
           obtain ⟨x12, f16, h⟩ := bindE h
           obtain ⟨f17, f18, f19⟩ := ixL_some f16
           try simp only [Int.toNat_natCast, Int.reduceToNat] at f19
           simp -implicitDefEqProofs only [go_sem, seval, hi1, f1, hi2, f6, f11, hq, f13, f14, f15, f17, f18, f19]
           refine X_reg (lx_ok γ) ?_
           obtain rfl := sI h
           simp -implicitDefEqProofs only [go_sem, seval, hi1, f1, hi2, f6, f11, hq]
           refine kR_in rfl ?_ ⟨rfl, rfl⟩
           exact To.mv [(0, 0), (1, 0)] (BaseR.refl hob) (by simp) (by decide) (by simp only [go_sem]; exact ⟨VM.refA (j := 0) (t := 0) rfl, vS, vS, VM.refA (j := 1) (t := 1) rfl, vS, vS⟩) ⟨⟨_, rfl, OM.box _ _ ⟨VM.self (by simpa using Bd.of_rdK hv0_0), trivial⟩⟩, ⟨_, rfl, OM.box _ _ ⟨vS, vS, vS, vS, vS, trivial⟩⟩, trivial⟩
         ·refine X_reg (lx_ok γ) ?_
          obtain ⟨x13, f20, h⟩ := bindE h
          obtain ⟨f21, f22⟩ := ixL_nat f20
          have f23 : (0 : Int) ≤ (i2 : Int) := Int.natCast_nonneg _
          cases f24 : decide (x8 < (List.length x13.Code : Int))
          ·rw [if_neg (nF f24)] at h
           simp -implicitDefEqProofs only [go_sem, seval, hi1, f1, hi2, f6, f24, hq, f21, f22, f23]
           refine kJ_in ?_ ⟨false, h, rfl, rfl⟩
           exact To.mv [(0, 0), (1, 0)] (BaseR.refl hob) (by simp) (by decide) (by simp only [go_sem]; exact ⟨VM.refA (j := 0) (t := 0) rfl, vS, vS, VM.refA (j := 1) (t := 1) rfl, vS, vS, vS⟩) ⟨⟨_, rfl, OM.box _ _ ⟨VM.self (by simpa using Bd.of_rdK hv0_0), trivial⟩⟩, ⟨_, rfl, OM.box _ _ ⟨vS, vS, vS, vS, vS, trivial⟩⟩, trivial⟩
          ·rw [if_pos f24] at h
           simp -implicitDefEqProofs only [go_sem, seval, hi1, f1, hi2, f6, f24, hq, f21, f22, f23]
           refine kJ_in ?_ ⟨(decide (x7 ≤ 3000)), h, rfl, rfl⟩
           exact To.mv [(0, 0), (1, 0)] (BaseR.refl hob) (by simp) (by decide) (by simp only [go_sem]; exact ⟨VM.refA (j := 0) (t := 0) rfl, vS, vS, VM.refA (j := 1) (t := 1) rfl, vS, vS, vS⟩) ⟨⟨_, rfl, OM.box _ _ ⟨VM.self (by simpa using Bd.of_rdK hv0_0), trivial⟩⟩, ⟨_, rfl, OM.box _ _ ⟨vS, vS, vS, vS, vS, trivial⟩⟩, trivial⟩
     ·rintro i2 x4 hi2 hn2 as1 ob1 ⟨rfl, rfl⟩
      refine X_seq ?_
      refine X_sr (lx_ok γ) ?_
      simp -implicitDefEqProofs only [go_sem, seval, hi1, f1, hi2, hq]
      refine X_condF (lx_ok γ) rfl ?_
      have h := hk2 _ (.inl hn2)
      refine X_exit ?_
      try simp -implicitDefEqProofs only [go_sem, ↓reduceIte, Nat.reduceEqDiff, reduceCtorEq]
      refine kJ_in ?_ ⟨x4, h, rfl, rfl⟩
      exact To.mv [(0, 0)] (BaseR.refl hob) (by simp) (by decide) (by simp only [go_sem]; exact ⟨VM.refA (j := 0) (t := 0) rfl, vS, vS⟩) ⟨⟨_, rfl, OM.box _ _ ⟨VM.self (by simpa using Bd.of_rdK hv0_0), trivial⟩⟩, trivial⟩
  ·rintro i1 x1 hi1 hn1 as1 ob1 ⟨rfl, rfl⟩
   refine X_seq ?_
   refine X_sr (lx_ok γ) ?_
   simp -implicitDefEqProofs only [go_sem, seval, hi1, hq]
   refine X_condF (lx_ok γ) rfl ?_
   have h := hk1 _ (.inl hn1)
   refine X_exit ?_
   try simp -implicitDefEqProofs only [go_sem, ↓reduceIte, Nat.reduceEqDiff, reduceCtorEq]
   refine kJ_in ?_ ⟨x1, h, rfl, rfl⟩
   exact To.mv0 (BaseR.refl hob) (by simp) (by simp only [go_sem]; exact vS)
end Go.Pf
end
section
set_option maxRecDepth 100000
namespace Go.Pf
open Go Go.Ab Go.Pp Go.Proofs Go.Proofs.S08
attribute [local go_sem] Lxτ Lxγ gam0 gam1 Int.toNat_natCast tau3 tau22 tau24 tau25 tau27 tau33 tau35 tau36 tau38 eI eB eS e_Ins e_Block e_Func e_Prog e_kind_state eL_Intu64
set_option maxHeartbeats 1000000 in
theorem portolanlaw08_great_ok (γ : GT) (ob : OT) {a0 : Prog} {v0_0 : V} (hv0_0 : rdK (getO ob) 5 v0_0 = some (List.map e_Func a0.Funcs)) {r : Bool} (h : portolanlaw08_great a0 = some r) :
  Valid (Lx γ) 7 [V.agg [v0_0]] ob (vbool r) ob := by
 refine valid_X (lx_ok γ) (fn := Tryd.f7) (rs := [.tmp 2]) Tryd.func7 (by kernel_rfl) rfl rfl Tryd.ntmps7 rfl (by simp) fun hb hob => ?_
 have hq := rd4 hv0_0
 rw [portolanlaw08_great] at h
 refine X_sr (lx_ok γ) ?_
 simp -implicitDefEqProofs only [go_sem, seval, hq]
 refine X_sr (lx_ok γ) ?_
 simp -implicitDefEqProofs only [go_sem, seval, hq]
 refine X_seq ?_
 refine X_sr (lx_ok γ) ?_
 simp -implicitDefEqProofs only [go_sem, seval, hq]
 refine X_jq (J := fun as1 ob1 => ∃ (x1 : Int), portolanlaw08_great.k1 a0 x1 = some r ∧ [(1, V.ref ob.length 0), (3, vint .i64 x1)] = as1 ∧ ob ++ [some (O.box [v0_0])] = ob1) ?_ ?_
 ·rintro as1 ob1 ⟨x1, h, rfl, rfl⟩
  rw [portolanlaw08_great.k1] at h
  simp -implicitDefEqProofs only [go_sem, seval, hq]
  refine X_sr (lx_ok γ) ?_
  cases f1 : decide (14 < x1)
  ·rw [if_neg (nF f1)] at h
   obtain ⟨x3, f2, h⟩ := bindE h
   simp -implicitDefEqProofs only [go_sem, seval, f1, hq]
   refine callV_eq (portolanref03_Great_ok γ _ (by first | exact rdK_app hv0_0 | exact hv0_0) f2) rfl rfl ?_
   simp -implicitDefEqProofs only [go_sem, seval, f1, hq]
   obtain rfl := sI h
   refine X_ret ?_
   simp -implicitDefEqProofs only [go_sem, seval, f1, hq]
   exact Rt.mv0 (BaseR.refl hob) (by simp) (vS)
  ·rw [if_pos f1] at h
   simp -implicitDefEqProofs only [go_sem, seval, f1, hq]
   obtain rfl := sI h
   refine X_ret ?_
   simp -implicitDefEqProofs only [go_sem, seval, f1, hq]
   exact Rt.mv0 (BaseR.refl hob) (by simp) (vS)
 ·refine X_block ?_
  obtain ⟨lr1, hl1, hk1, hr1⟩ := aft2 h
  refine X_forN hl1 (fun (i1 : Nat) (s : Int) as1 ob1 => [(1, V.ref ob.length 0), (3, vint .i64 s), (4, vint .i64 (i1 : Int))] = as1 ∧ ob ++ [some (O.box [v0_0])] = ob1) ⟨_, _, ?_, rfl, rfl⟩ ?_ ?_
  ·exact To.mv [(0, 0)] (BaseR.refl hob) (by simp) (by decide) (by simp only [go_sem]; exact ⟨VM.refA (j := 0) (t := 0) rfl, vS, VM.eqv (by simp) (by simp)⟩) ⟨⟨_, rfl, OM.box _ _ ⟨VM.self (by simpa using Bd.of_rdK hv0_0), trivial⟩⟩, trivial⟩
  ·rintro i1 x1 o1 hi1 hw1 h ho1 as1 ob1 ⟨rfl, rfl⟩
   rw [portolanlaw08_great.b1] at h
   refine X_seq ?_
   refine X_sr (lx_ok γ) ?_
   simp -implicitDefEqProofs only [go_sem, seval, hi1, hq]
   cases f3 : decide ((i1 : Int) < 9)
   ·rw [if_neg (nF f3)] at h
    refine X_cond (lx_ok γ) ?_
    simp -implicitDefEqProofs only [go_sem, seval, hi1, f3, hq]
    obtain rfl := sI h
    have h := hk1 _ (.inr (ho1 (fun _ hs => nomatch hs)))
    refine X_exit ?_
    try simp -implicitDefEqProofs only [go_sem, ↓reduceIte, Nat.reduceEqDiff, reduceCtorEq]
    refine kJ_in ?_ ⟨x1, h, rfl, rfl⟩
    exact To.mv [(0, 0)] (BaseR.refl hob) (by simp) (by decide) (by simp only [go_sem]; exact ⟨VM.refA (j := 0) (t := 0) rfl, vS⟩) ⟨⟨_, rfl, OM.box _ _ ⟨VM.self (by simpa using Bd.of_rdK hv0_0), trivial⟩⟩, trivial⟩
   ·rw [if_pos f3] at h
    refine X_cond (lx_ok γ) ?_
    simp -implicitDefEqProofs only [go_sem, seval, hi1, f3, hq]
    refine X_skip ?_
    try simp -implicitDefEqProofs only [go_sem]
    refine X_seq ?_
    refine X_block ?_
    refine X_drawn (lx_ok γ) [[], [], [1], [], [1, 2, 3], [1, 2, 3, 4], [1, 2, 3, 4, 5], [1, 2, 3, 4, 5, 6], [], [8], [], [8, 9, 10], [8, 9, 10, 11], [8, 9, 10, 11, 12], [8, 9, 10, 11, 12, 13], [8, 9, 10, 11, 12, 13, 14], [0, 1, 2, 3, 4, 5, 6, 7, 8, 9, 10, 11, 12, 13, 14, 15], [0, 1, 2, 3, 4, 5, 6, 7, 8, 9, 10, 11, 12, 13, 14, 15, 16]] (fun i => match i with | _ => false) (by kernel_rfl) ?_
    obtain ⟨x4, f4, h⟩ := bindE h
    obtain ⟨f5, f6⟩ := ixL_nat f4
    have f7 : (0 : Int) ≤ (i1 : Int) := Int.natCast_nonneg _
    try simp -implicitDefEqProofs only [go_sem, seval, hi1, f3, hq, f5, f6, f7, cmpr, List.getD_cons_zero, List.getD_cons_succ, List.contains_cons, List.contains_nil, Nat.reduceBEq, Bool.false_or, Bool.or_false, Bool.true_or, Bool.or_true, beq_self_eq_true]
    refine X_reg (lx_ok γ) ?_
    obtain rfl := sI h
    simp -implicitDefEqProofs only [go_sem, seval, hi1, f3, hq]
    refine kR_in rfl ?_ ⟨rfl, rfl⟩
    exact To.mv [(0, 0)] (BaseR.refl hob) (by simp) (by decide) (by simp only [go_sem]; exact ⟨VM.refA (j := 0) (t := 0) rfl, vS, VM.eqv (by rw [hw1]) (by simp)⟩) ⟨⟨_, rfl, OM.box _ _ ⟨VM.self (by simpa using Bd.of_rdK hv0_0), trivial⟩⟩, trivial⟩
  ·rintro i1 x1 hi1 hn1 as1 ob1 ⟨rfl, rfl⟩
   refine X_seq ?_
   refine X_sr (lx_ok γ) ?_
   simp -implicitDefEqProofs only [go_sem, seval, hi1, hq]
   refine X_condF (lx_ok γ) rfl ?_
   have h := hk1 _ (.inl hn1)
   refine X_exit ?_
   try simp -implicitDefEqProofs only [go_sem, ↓reduceIte, Nat.reduceEqDiff, reduceCtorEq]
   refine kJ_in ?_ ⟨x1, h, rfl, rfl⟩
   exact To.mv [(0, 0)] (BaseR.refl hob) (by simp) (by decide) (by simp only [go_sem]; exact ⟨VM.refA (j := 0) (t := 0) rfl, vS⟩) ⟨⟨_, rfl, OM.box _ _ ⟨VM.self (by simpa using Bd.of_rdK hv0_0), trivial⟩⟩, trivial⟩
end Go.Pf
end
section
set_option maxRecDepth 100000
namespace Go.Pf
open Go Go.Ab Go.Pp Go.Proofs Go.Proofs.S08
attribute [local go_sem] Lxτ Lxγ gam0 gam1 Int.toNat_natCast tau3 eI eB eS e_Ins e_Block e_Func e_Prog e_kind_state eL_Intu64
set_option maxHeartbeats 1000000 in
theorem portolanref03_Parts_ok (γ : GT) (ob : OT) {a0 : Int} {r : ByteArray} (h : portolanref03_Parts a0 = some r) :
  Valid (Lx γ) 22 [vint .i64 a0] ob (vstr r) ob := by
 refine valid_X (lx_ok γ) (fn := Tryd.f22) (rs := [.tmp 2]) Tryd.func22 (by kernel_rfl) rfl rfl Tryd.ntmps22 rfl (by simp) fun hb hob => ?_
 rw [portolanref03_Parts] at h
 refine X_sr (lx_ok γ) ?_
 simp -implicitDefEqProofs only [go_sem, seval]
 refine X_seq ?_
 refine X_sr (lx_ok γ) ?_
 simp -implicitDefEqProofs only [go_sem, seval]
 refine X_block ?_
 refine X_sr (lx_ok γ) ?_
 simp -implicitDefEqProofs only [go_sem, seval]
 cases f1 : (a0 == 1)
 ·rw [if_neg (nF f1)] at h
  refine X_cond (lx_ok γ) ?_
  simp -implicitDefEqProofs only [go_sem, seval, f1]
  refine X_seq ?_
  refine X_jq (J := fun as1 ob1 => ∃ (x3 : Bool), portolanref03_Parts.j1 a0 x3 = some r ∧ [(3, vint .i64 a0), (6, vbool x3)] = as1 ∧ ob = ob1) ?_ ?_
  ·rintro as1 ob1 ⟨x3, h, rfl, rfl⟩
   rw [portolanref03_Parts.j1] at h
   simp -implicitDefEqProofs only [go_sem, seval, f1]
   cases f2 : x3
   ·rw [if_neg (nF f2)] at h
    refine X_cond (lx_ok γ) ?_
    simp -implicitDefEqProofs only [go_sem, seval, f1, f2]
    refine X_seq ?_
    refine X_jq (J := fun as1 ob1 => ∃ (x8 : Bool), portolanref03_Parts.j2 a0 x8 = some r ∧ [(3, vint .i64 a0), (10, vbool x8)] = as1 ∧ ob = ob1) ?_ ?_
    ·rintro as1 ob1 ⟨x8, h, rfl, rfl⟩
     rw [portolanref03_Parts.j2] at h
     simp -implicitDefEqProofs only [go_sem, seval, f1, f2]
     cases f3 : x8
     ·rw [if_neg (nF f3)] at h
      refine X_cond (lx_ok γ) ?_
      simp -implicitDefEqProofs only [go_sem, seval, f1, f2, f3]
      refine X_sr (lx_ok γ) ?_
      simp -implicitDefEqProofs only [go_sem, seval, f1, f2, f3]
      cases f4 : (a0 == 7)
      ·rw [if_neg (nF f4)] at h
       refine X_cond (lx_ok γ) ?_
       simp -implicitDefEqProofs only [go_sem, seval, f1, f2, f3, f4]
       refine X_sr (lx_ok γ) ?_
       simp -implicitDefEqProofs only [go_sem, seval, f1, f2, f3, f4]
       cases f5 : (a0 == 10)
       ·rw [if_neg (nF f5)] at h
        refine X_cond (lx_ok γ) ?_
        simp -implicitDefEqProofs only [go_sem, seval, f1, f2, f3, f4, f5]
        refine X_seq ?_
        refine X_jq (J := fun as1 ob1 => ∃ (x11 : Bool), portolanref03_Parts.j3 a0 x11 = some r ∧ [(3, vint .i64 a0), (20, vbool x11)] = as1 ∧ ob = ob1) ?_ ?_
        ·rintro as1 ob1 ⟨x11, h, rfl, rfl⟩
         rw [portolanref03_Parts.j3] at h
         simp -implicitDefEqProofs only [go_sem, seval, f1, f2, f3, f4, f5]
         cases f6 : x11
         ·rw [if_neg (nF f6)] at h
          refine X_cond (lx_ok γ) ?_
          simp -implicitDefEqProofs only [go_sem, seval, f1, f2, f3, f4, f5, f6]
          refine X_seq ?_
          refine X_jq (J := fun as1 ob1 => ∃ (x13 : Bool), portolanref03_Parts.j4 a0 x13 = some r ∧ [(3, vint .i64 a0), (24, vbool x13)] = as1 ∧ ob = ob1) ?_ ?_
          ·rintro as1 ob1 ⟨x13, h, rfl, rfl⟩
           rw [portolanref03_Parts.j4] at h
           simp -implicitDefEqProofs only [go_sem, seval, f1, f2, f3, f4, f5, f6]
           cases f7 : x13
           ·rw [if_neg (nF f7)] at h
            refine X_cond (lx_ok γ) ?_
            simp -implicitDefEqProofs only [go_sem, seval, f1, f2, f3, f4, f5, f6, f7]
            refine X_sr (lx_ok γ) ?_
            simp -implicitDefEqProofs only [go_sem, seval, f1, f2, f3, f4, f5, f6, f7]
            cases f8 : (a0 == 16)
            ·rw [if_neg (nF f8)] at h
             refine X_cond (lx_ok γ) ?_
             simp -implicitDefEqProofs only [go_sem, seval, f1, f2, f3, f4, f5, f6, f7, f8]
             refine X_sr (lx_ok γ) ?_
             simp -implicitDefEqProofs only [go_sem, seval, f1, f2, f3, f4, f5, f6, f7, f8]
             cases f9 : (a0 == 18)
             ·rw [if_neg (nF f9)] at h
              refine X_cond (lx_ok γ) ?_
              simp -implicitDefEqProofs only [go_sem, seval, f1, f2, f3, f4, f5, f6, f7, f8, f9]
              refine X_sr (lx_ok γ) ?_
              simp -implicitDefEqProofs only [go_sem, seval, f1, f2, f3, f4, f5, f6, f7, f8, f9]
              cases f10 : (a0 == 19)
              ·rw [if_neg (nF f10)] at h
               refine X_cond (lx_ok γ) ?_
               simp -implicitDefEqProofs only [go_sem, seval, f1, f2, f3, f4, f5, f6, f7, f8, f9, f10]
               refine X_seq ?_
               refine X_jq (J := fun as1 ob1 => ∃ (x15 : Bool), portolanref03_Parts.j5 a0 x15 = some r ∧ [(3, vint .i64 a0), (33, vbool x15)] = as1 ∧ ob = ob1) ?_ ?_
               ·rintro as1 ob1 ⟨x15, h, rfl, rfl⟩
                rw [portolanref03_Parts.j5] at h
                simp -implicitDefEqProofs only [go_sem, seval, f1, f2, f3, f4, f5, f6, f7, f8, f9, f10]
                cases f11 : x15
                ·rw [if_neg (nF f11)] at h
                 refine X_cond (lx_ok γ) ?_
                 simp -implicitDefEqProofs only [go_sem, seval, f1, f2, f3, f4, f5, f6, f7, f8, f9, f10, f11]
                 refine X_sr (lx_ok γ) ?_
                 simp -implicitDefEqProofs only [go_sem, seval, f1, f2, f3, f4, f5, f6, f7, f8, f9, f10, f11]
                 cases f12 : (a0 == 21)
                 ·rw [if_neg (nF f12)] at h
                  refine X_cond (lx_ok γ) ?_
                  simp -implicitDefEqProofs only [go_sem, seval, f1, f2, f3, f4, f5, f6, f7, f8, f9, f10, f11, f12]
                  refine X_sr (lx_ok γ) ?_
                  simp -implicitDefEqProofs only [go_sem, seval, f1, f2, f3, f4, f5, f6, f7, f8, f9, f10, f11, f12]
                  cases f13 : (a0 == 22)
                  ·rw [if_neg (nF f13)] at h
                   refine X_cond (lx_ok γ) ?_
                   simp -implicitDefEqProofs only [go_sem, seval, f1, f2, f3, f4, f5, f6, f7, f8, f9, f10, f11, f12, f13]
                   refine X_skip ?_
                   try simp -implicitDefEqProofs only [go_sem]
                   refine X_sr (lx_ok γ) ?_
                   simp -implicitDefEqProofs only [go_sem, seval, f1, f2, f3, f4, f5, f6, f7, f8, f9, f10, f11, f12, f13]
                   obtain rfl := sI h
                   refine X_ret ?_
                   simp -implicitDefEqProofs only [go_sem, seval, f1, f2, f3, f4, f5, f6, f7, f8, f9, f10, f11, f12, f13]
                   exact Rt.mv1 (BaseR.refl hob) (by simp) (vS)
                  ·rw [if_pos f13] at h
                   refine X_cond (lx_ok γ) ?_
                   simp -implicitDefEqProofs only [go_sem, seval, f1, f2, f3, f4, f5, f6, f7, f8, f9, f10, f11, f12, f13]
                   refine X_sr (lx_ok γ) ?_
                   simp -implicitDefEqProofs only [go_sem, seval, f1, f2, f3, f4, f5, f6, f7, f8, f9, f10, f11, f12, f13]
                   obtain rfl := sI h
                   refine X_ret ?_
                   simp -implicitDefEqProofs only [go_sem, seval, f1, f2, f3, f4, f5, f6, f7, f8, f9, f10, f11, f12, f13]
                   exact Rt.mv1 (BaseR.refl hob) (by simp) (vS)
                 ·rw [if_pos f12] at h
                  refine X_cond (lx_ok γ) ?_
                  simp -implicitDefEqProofs only [go_sem, seval, f1, f2, f3, f4, f5, f6, f7, f8, f9, f10, f11, f12]
                  refine X_sr (lx_ok γ) ?_
                  simp -implicitDefEqProofs only [go_sem, seval, f1, f2, f3, f4, f5, f6, f7, f8, f9, f10, f11, f12]
                  obtain rfl := sI h
                  refine X_ret ?_
                  simp -implicitDefEqProofs only [go_sem, seval, f1, f2, f3, f4, f5, f6, f7, f8, f9, f10, f11, f12]
                  exact Rt.mv1 (BaseR.refl hob) (by simp) (vS)
                ·rw [if_pos f11] at h
                 refine X_cond (lx_ok γ) ?_
                 simp -implicitDefEqProofs only [go_sem, seval, f1, f2, f3, f4, f5, f6, f7, f8, f9, f10, f11]
                 refine X_sr (lx_ok γ) ?_
                 simp -implicitDefEqProofs only [go_sem, seval, f1, f2, f3, f4, f5, f6, f7, f8, f9, f10, f11]
                 obtain rfl := sI h
                 refine X_ret ?_
                 simp -implicitDefEqProofs only [go_sem, seval, f1, f2, f3, f4, f5, f6, f7, f8, f9, f10, f11]
                 exact Rt.mv1 (BaseR.refl hob) (by simp) (vS)
               ·refine X_sr (lx_ok γ) ?_
                simp -implicitDefEqProofs only [go_sem, seval, f1, f2, f3, f4, f5, f6, f7, f8, f9, f10]
                cases f14 : (a0 == 20)
                ·rw [if_neg (nF f14)] at h
                 refine X_cond (lx_ok γ) ?_
                 simp -implicitDefEqProofs only [go_sem, seval, f1, f2, f3, f4, f5, f6, f7, f8, f9, f10, f14]
                 refine X_reg (lx_ok γ) ?_
                 simp -implicitDefEqProofs only [go_sem, seval, f1, f2, f3, f4, f5, f6, f7, f8, f9, f10, f14]
                 refine kJ_in ?_ ⟨(a0 == 23), h, rfl, rfl⟩
                 exact To.mv1 (BaseR.refl hob) (by simp) (by simp only [go_sem]; exact ⟨vS, vS⟩)
                ·rw [if_pos f14] at h
                 refine X_cond (lx_ok γ) ?_
                 simp -implicitDefEqProofs only [go_sem, seval, f1, f2, f3, f4, f5, f6, f7, f8, f9, f10, f14]
                 refine X_skip ?_
                 try simp -implicitDefEqProofs only [go_sem]
                 refine kJ_in ?_ ⟨true, h, rfl, rfl⟩
                 exact To.mv1 (BaseR.refl hob) (by simp) (by simp only [go_sem]; exact ⟨vS, vS⟩)
              ·rw [if_pos f10] at h
               refine X_cond (lx_ok γ) ?_
               simp -implicitDefEqProofs only [go_sem, seval, f1, f2, f3, f4, f5, f6, f7, f8, f9, f10]
               refine X_sr (lx_ok γ) ?_
               simp -implicitDefEqProofs only [go_sem, seval, f1, f2, f3, f4, f5, f6, f7, f8, f9, f10]
               obtain rfl := sI h
               refine X_ret ?_
               simp -implicitDefEqProofs only [go_sem, seval, f1, f2, f3, f4, f5, f6, f7, f8, f9, f10]
               exact Rt.mv1 (BaseR.refl hob) (by simp) (vS)
             ·rw [if_pos f9] at h
              refine X_cond (lx_ok γ) ?_
              simp -implicitDefEqProofs only [go_sem, seval, f1, f2, f3, f4, f5, f6, f7, f8, f9]
              refine X_sr (lx_ok γ) ?_
              simp -implicitDefEqProofs only [go_sem, seval, f1, f2, f3, f4, f5, f6, f7, f8, f9]
              obtain rfl := sI h
              refine X_ret ?_
              simp -implicitDefEqProofs only [go_sem, seval, f1, f2, f3, f4, f5, f6, f7, f8, f9]
              exact Rt.mv1 (BaseR.refl hob) (by simp) (vS)
            ·rw [if_pos f8] at h
             refine X_cond (lx_ok γ) ?_
             simp -implicitDefEqProofs only [go_sem, seval, f1, f2, f3, f4, f5, f6, f7, f8]
             refine X_sr (lx_ok γ) ?_
             simp -implicitDefEqProofs only [go_sem, seval, f1, f2, f3, f4, f5, f6, f7, f8]
             obtain rfl := sI h
             refine X_ret ?_
             simp -implicitDefEqProofs only [go_sem, seval, f1, f2, f3, f4, f5, f6, f7, f8]
             exact Rt.mv1 (BaseR.refl hob) (by simp) (vS)
           ·rw [if_pos f7] at h
            refine X_cond (lx_ok γ) ?_
            simp -implicitDefEqProofs only [go_sem, seval, f1, f2, f3, f4, f5, f6, f7]
            refine X_sr (lx_ok γ) ?_
            simp -implicitDefEqProofs only [go_sem, seval, f1, f2, f3, f4, f5, f6, f7]
            obtain rfl := sI h
            refine X_ret ?_
            simp -implicitDefEqProofs only [go_sem, seval, f1, f2, f3, f4, f5, f6, f7]
            exact Rt.mv1 (BaseR.refl hob) (by simp) (vS)
          ·refine X_sr (lx_ok γ) ?_
           simp -implicitDefEqProofs only [go_sem, seval, f1, f2, f3, f4, f5, f6]
           cases f15 : (a0 == 12)
           ·rw [if_neg (nF f15)] at h
            refine X_cond (lx_ok γ) ?_
            simp -implicitDefEqProofs only [go_sem, seval, f1, f2, f3, f4, f5, f6, f15]
            refine X_reg (lx_ok γ) ?_
            simp -implicitDefEqProofs only [go_sem, seval, f1, f2, f3, f4, f5, f6, f15]
            refine kJ_in ?_ ⟨(a0 == 14), h, rfl, rfl⟩
            exact To.mv1 (BaseR.refl hob) (by simp) (by simp only [go_sem]; exact ⟨vS, vS⟩)
           ·rw [if_pos f15] at h
            refine X_cond (lx_ok γ) ?_
            simp -implicitDefEqProofs only [go_sem, seval, f1, f2, f3, f4, f5, f6, f15]
            refine X_skip ?_
            try simp -implicitDefEqProofs only [go_sem]
            refine kJ_in ?_ ⟨true, h, rfl, rfl⟩
            exact To.mv1 (BaseR.refl hob) (by simp) (by simp only [go_sem]; exact ⟨vS, vS⟩)
         ·rw [if_pos f6] at h
          refine X_cond (lx_ok γ) ?_
          simp -implicitDefEqProofs only [go_sem, seval, f1, f2, f3, f4, f5, f6]
          refine X_sr (lx_ok γ) ?_
          simp -implicitDefEqProofs only [go_sem, seval, f1, f2, f3, f4, f5, f6]
          obtain rfl := sI h
          refine X_ret ?_
          simp -implicitDefEqProofs only [go_sem, seval, f1, f2, f3, f4, f5, f6]
          exact Rt.mv1 (BaseR.refl hob) (by simp) (vS)
        ·refine X_sr (lx_ok γ) ?_
         simp -implicitDefEqProofs only [go_sem, seval, f1, f2, f3, f4, f5]
         cases f16 : (a0 == 11)
         ·rw [if_neg (nF f16)] at h
          refine X_cond (lx_ok γ) ?_
          simp -implicitDefEqProofs only [go_sem, seval, f1, f2, f3, f4, f5, f16]
          refine X_sr (lx_ok γ) ?_
          simp -implicitDefEqProofs only [go_sem, seval, f1, f2, f3, f4, f5, f16]
          cases f17 : (a0 == 13)
          ·rw [if_neg (nF f17)] at h
           refine X_cond (lx_ok γ) ?_
           simp -implicitDefEqProofs only [go_sem, seval, f1, f2, f3, f4, f5, f16, f17]
           refine X_reg (lx_ok γ) ?_
           simp -implicitDefEqProofs only [go_sem, seval, f1, f2, f3, f4, f5, f16, f17]
           refine kJ_in ?_ ⟨(a0 == 15), h, rfl, rfl⟩
           exact To.mv1 (BaseR.refl hob) (by simp) (by simp only [go_sem]; exact ⟨vS, vS⟩)
          ·rw [if_pos f17] at h
           refine X_cond (lx_ok γ) ?_
           simp -implicitDefEqProofs only [go_sem, seval, f1, f2, f3, f4, f5, f16, f17]
           refine X_skip ?_
           try simp -implicitDefEqProofs only [go_sem]
           refine kJ_in ?_ ⟨true, h, rfl, rfl⟩
           exact To.mv1 (BaseR.refl hob) (by simp) (by simp only [go_sem]; exact ⟨vS, vS⟩)
         ·rw [if_pos f16] at h
          refine X_cond (lx_ok γ) ?_
          simp -implicitDefEqProofs only [go_sem, seval, f1, f2, f3, f4, f5, f16]
          refine X_skip ?_
          try simp -implicitDefEqProofs only [go_sem]
          refine kJ_in ?_ ⟨true, h, rfl, rfl⟩
          exact To.mv1 (BaseR.refl hob) (by simp) (by simp only [go_sem]; exact ⟨vS, vS⟩)
       ·rw [if_pos f5] at h
        refine X_cond (lx_ok γ) ?_
        simp -implicitDefEqProofs only [go_sem, seval, f1, f2, f3, f4, f5]
        refine X_sr (lx_ok γ) ?_
        simp -implicitDefEqProofs only [go_sem, seval, f1, f2, f3, f4, f5]
        obtain rfl := sI h
        refine X_ret ?_
        simp -implicitDefEqProofs only [go_sem, seval, f1, f2, f3, f4, f5]
        exact Rt.mv1 (BaseR.refl hob) (by simp) (vS)
      ·rw [if_pos f4] at h
       refine X_cond (lx_ok γ) ?_
       simp -implicitDefEqProofs only [go_sem, seval, f1, f2, f3, f4]
       refine X_sr (lx_ok γ) ?_
       simp -implicitDefEqProofs only [go_sem, seval, f1, f2, f3, f4]
       obtain rfl := sI h
       refine X_ret ?_
       simp -implicitDefEqProofs only [go_sem, seval, f1, f2, f3, f4]
       exact Rt.mv1 (BaseR.refl hob) (by simp) (vS)
     ·rw [if_pos f3] at h
      refine X_cond (lx_ok γ) ?_
      simp -implicitDefEqProofs only [go_sem, seval, f1, f2, f3]
      refine X_sr (lx_ok γ) ?_
      simp -implicitDefEqProofs only [go_sem, seval, f1, f2, f3]
      obtain rfl := sI h
      refine X_ret ?_
      simp -implicitDefEqProofs only [go_sem, seval, f1, f2, f3]
      exact Rt.mv1 (BaseR.refl hob) (by simp) (vS)
    ·refine X_sr (lx_ok γ) ?_
     simp -implicitDefEqProofs only [go_sem, seval, f1, f2]
     cases f18 : (a0 == 3)
     ·rw [if_neg (nF f18)] at h
      refine X_cond (lx_ok γ) ?_
      simp -implicitDefEqProofs only [go_sem, seval, f1, f2, f18]
      refine X_sr (lx_ok γ) ?_
      simp -implicitDefEqProofs only [go_sem, seval, f1, f2, f18]
      cases f19 : (a0 == 4)
      ·rw [if_neg (nF f19)] at h
       refine X_cond (lx_ok γ) ?_
       simp -implicitDefEqProofs only [go_sem, seval, f1, f2, f18, f19]
       refine X_sr (lx_ok γ) ?_
       simp -implicitDefEqProofs only [go_sem, seval, f1, f2, f18, f19]
       cases f20 : (a0 == 5)
       ·rw [if_neg (nF f20)] at h
        refine X_cond (lx_ok γ) ?_
        simp -implicitDefEqProofs only [go_sem, seval, f1, f2, f18, f19, f20]
        refine X_sr (lx_ok γ) ?_
        simp -implicitDefEqProofs only [go_sem, seval, f1, f2, f18, f19, f20]
        cases f21 : (a0 == 6)
        ·rw [if_neg (nF f21)] at h
         refine X_cond (lx_ok γ) ?_
         simp -implicitDefEqProofs only [go_sem, seval, f1, f2, f18, f19, f20, f21]
         refine X_reg (lx_ok γ) ?_
         simp -implicitDefEqProofs only [go_sem, seval, f1, f2, f18, f19, f20, f21]
         refine kJ_in ?_ ⟨(a0 == 9), h, rfl, rfl⟩
         exact To.mv1 (BaseR.refl hob) (by simp) (by simp only [go_sem]; exact ⟨vS, vS⟩)
        ·rw [if_pos f21] at h
         refine X_cond (lx_ok γ) ?_
         simp -implicitDefEqProofs only [go_sem, seval, f1, f2, f18, f19, f20, f21]
         refine X_skip ?_
         try simp -implicitDefEqProofs only [go_sem]
         refine kJ_in ?_ ⟨true, h, rfl, rfl⟩
         exact To.mv1 (BaseR.refl hob) (by simp) (by simp only [go_sem]; exact ⟨vS, vS⟩)
       ·rw [if_pos f20] at h
        refine X_cond (lx_ok γ) ?_
        simp -implicitDefEqProofs only [go_sem, seval, f1, f2, f18, f19, f20]
        refine X_skip ?_
        try simp -implicitDefEqProofs only [go_sem]
        refine kJ_in ?_ ⟨true, h, rfl, rfl⟩
        exact To.mv1 (BaseR.refl hob) (by simp) (by simp only [go_sem]; exact ⟨vS, vS⟩)
      ·rw [if_pos f19] at h
       refine X_cond (lx_ok γ) ?_
       simp -implicitDefEqProofs only [go_sem, seval, f1, f2, f18, f19]
       refine X_skip ?_
       try simp -implicitDefEqProofs only [go_sem]
       refine kJ_in ?_ ⟨true, h, rfl, rfl⟩
       exact To.mv1 (BaseR.refl hob) (by simp) (by simp only [go_sem]; exact ⟨vS, vS⟩)
     ·rw [if_pos f18] at h
      refine X_cond (lx_ok γ) ?_
      simp -implicitDefEqProofs only [go_sem, seval, f1, f2, f18]
      refine X_skip ?_
      try simp -implicitDefEqProofs only [go_sem]
      refine kJ_in ?_ ⟨true, h, rfl, rfl⟩
      exact To.mv1 (BaseR.refl hob) (by simp) (by simp only [go_sem]; exact ⟨vS, vS⟩)
   ·rw [if_pos f2] at h
    refine X_cond (lx_ok γ) ?_
    simp -implicitDefEqProofs only [go_sem, seval, f1, f2]
    refine X_sr (lx_ok γ) ?_
    simp -implicitDefEqProofs only [go_sem, seval, f1, f2]
    obtain rfl := sI h
    refine X_ret ?_
    simp -implicitDefEqProofs only [go_sem, seval, f1, f2]
    exact Rt.mv1 (BaseR.refl hob) (by simp) (vS)
  ·refine X_sr (lx_ok γ) ?_
   simp -implicitDefEqProofs only [go_sem, seval, f1]
   cases f22 : (a0 == 2)
   ·rw [if_neg (nF f22)] at h
    refine X_cond (lx_ok γ) ?_
    simp -implicitDefEqProofs only [go_sem, seval, f1, f22]
    refine X_sr (lx_ok γ) ?_
    simp -implicitDefEqProofs only [go_sem, seval, f1, f22]
    cases f23 : (a0 == 8)
    ·rw [if_neg (nF f23)] at h
     refine X_cond (lx_ok γ) ?_
     simp -implicitDefEqProofs only [go_sem, seval, f1, f22, f23]
     refine X_reg (lx_ok γ) ?_
     simp -implicitDefEqProofs only [go_sem, seval, f1, f22, f23]
     refine kJ_in ?_ ⟨(a0 == 17), h, rfl, rfl⟩
     exact To.mv1 (BaseR.refl hob) (by simp) (by simp only [go_sem]; exact ⟨vS, vS⟩)
    ·rw [if_pos f23] at h
     refine X_cond (lx_ok γ) ?_
     simp -implicitDefEqProofs only [go_sem, seval, f1, f22, f23]
     refine X_skip ?_
     try simp -implicitDefEqProofs only [go_sem]
     refine kJ_in ?_ ⟨true, h, rfl, rfl⟩
     exact To.mv1 (BaseR.refl hob) (by simp) (by simp only [go_sem]; exact ⟨vS, vS⟩)
   ·rw [if_pos f22] at h
    refine X_cond (lx_ok γ) ?_
    simp -implicitDefEqProofs only [go_sem, seval, f1, f22]
    refine X_skip ?_
    try simp -implicitDefEqProofs only [go_sem]
    refine kJ_in ?_ ⟨true, h, rfl, rfl⟩
    exact To.mv1 (BaseR.refl hob) (by simp) (by simp only [go_sem]; exact ⟨vS, vS⟩)
 ·rw [if_pos f1] at h
  refine X_cond (lx_ok γ) ?_
  simp -implicitDefEqProofs only [go_sem, seval, f1]
  refine X_sr (lx_ok γ) ?_
  simp -implicitDefEqProofs only [go_sem, seval, f1]
  obtain rfl := sI h
  refine X_ret ?_
  simp -implicitDefEqProofs only [go_sem, seval, f1]
  exact Rt.mv1 (BaseR.refl hob) (by simp) (vS)
end Go.Pf
end
section
set_option maxRecDepth 100000
namespace Go.Pf
open Go Go.Ab Go.Pp Go.Proofs Go.Proofs.S08
attribute [local go_sem] Lxτ Lxγ gam0 gam1 Int.toNat_natCast tau3 tau5 tau9 eI eB eS e_Ins e_Block e_Func e_Prog e_kind_state eL_Intu64
set_option maxHeartbeats 1000000 in
theorem portolanref04_has_ok (γ : GT) (ob : OT) {a0 : Int} {a1 : Int} {r : Bool} (h : portolanref04_has a0 a1 = some r) :
  Valid (Lx γ) 35 [vint .i64 a0, vint .u8 a1] ob (vbool r) ob := by
 refine valid_X (lx_ok γ) (fn := Tryd.f35) (rs := [.tmp 4]) Tryd.func35 (by kernel_rfl) rfl rfl Tryd.ntmps35 rfl (by simp) fun hb hob => ?_
 rw [portolanref04_has] at h
 refine X_sr (lx_ok γ) ?_
 simp -implicitDefEqProofs only [go_sem, seval]
 refine X_sr (lx_ok γ) ?_
 obtain ⟨x1, f1, h⟩ := bindE h
 simp -implicitDefEqProofs only [go_sem, seval]
 refine callV_eq (portolanref03_Parts_ok γ _  f1) rfl rfl ?_
 simp -implicitDefEqProofs only [go_sem, seval]
 refine X_seq ?_
 refine X_sr (lx_ok γ) ?_
 simp -implicitDefEqProofs only [go_sem, seval]
 refine X_jq (J := fun as1 ob1 => portolanref04_has.k1 = some r ∧ [] = as1 ∧ ob = ob1) ?_ ?_
 ·rintro as1 ob1 ⟨h, rfl, rfl⟩
  rw [portolanref04_has.k1] at h
  simp -implicitDefEqProofs only [go_sem, seval]
  refine X_sr (lx_ok γ) ?_
  simp -implicitDefEqProofs only [go_sem, seval]
  obtain rfl := sI h
  refine X_ret ?_
  simp -implicitDefEqProofs only [go_sem, seval]
  exact Rt.mv1 (BaseR.refl hob) (by simp) (vS)
 ·refine X_block ?_
  obtain ⟨lr1, hl1, hk1, hr1⟩ := aft2 h
  refine X_forN hl1 (fun (i1 : Nat) (s : Unit) as1 ob1 => [(1, vint .u8 a1), (5, vstr x1), (6, vint .i64 (i1 : Int))] = as1 ∧ ob = ob1) ⟨_, _, ?_, rfl, rfl⟩ ?_ ?_
  ·exact To.mv1 (BaseR.refl hob) (by simp) (by simp only [go_sem]; exact ⟨vS, vS, VM.eqv (by simp) (by simp)⟩)
  ·rintro i1 _ o1 hi1 hw1 h ho1 as1 ob1 ⟨rfl, rfl⟩
   rw [portolanref04_has.b1] at h
   refine X_seq ?_
   refine X_sr (lx_ok γ) ?_
   simp -implicitDefEqProofs only [go_sem, seval, hi1]
   refine X_cond (lx_ok γ) ?_
   simp -implicitDefEqProofs only [go_sem, seval, hi1]
   refine X_skip ?_
   try simp -implicitDefEqProofs only [go_sem]
   refine X_seq ?_
   refine X_block ?_
   refine X_sr (lx_ok γ) ?_
   obtain ⟨x3, f2, h⟩ := bindE h
   obtain ⟨f3, f4, f5, f6⟩ := ixS_some f2
   try simp only [Int.toNat_natCast, Int.reduceToNat] at f5
   replace f6 := f6.symm
   simp -implicitDefEqProofs only [go_sem, seval, hi1, f3, f5, f6]
   cases f7 : (x3 == a1)
   ·rw [if_neg (nF f7)] at h
    refine X_cond (lx_ok γ) ?_
    simp -implicitDefEqProofs only [go_sem, seval, hi1, f7, f3, f5, f6]
    refine X_skip ?_
    try simp -implicitDefEqProofs only [go_sem]
    refine X_reg (lx_ok γ) ?_
    obtain rfl := sI h
    simp -implicitDefEqProofs only [go_sem, seval, hi1, f7]
    refine kR_in rfl ?_ ⟨rfl, rfl⟩
    exact To.mv1 (BaseR.refl hob) (by simp) (by simp only [go_sem]; exact ⟨vS, vS, VM.eqv (by rw [hw1]) (by simp)⟩)
   ·rw [if_pos f7] at h
    refine X_cond (lx_ok γ) ?_
    simp -implicitDefEqProofs only [go_sem, seval, hi1, f7, f3, f5, f6]
    refine X_sr (lx_ok γ) ?_
    simp -implicitDefEqProofs only [go_sem, seval, hi1, f7]
    obtain rfl := sI h
    have h := hr1 _ (ho1 (fun _ hs => nomatch hs))
    obtain rfl := sI h
    refine X_ret ?_
    simp -implicitDefEqProofs only [go_sem, seval, hi1, f7]
    exact Rt.mv1 (BaseR.refl hob) (by simp) (vS)
  ·rintro i1 _ hi1 hn1 as1 ob1 ⟨rfl, rfl⟩
   refine X_seq ?_
   refine X_sr (lx_ok γ) ?_
   simp -implicitDefEqProofs only [go_sem, seval, hi1]
   refine X_cond (lx_ok γ) ?_
   simp -implicitDefEqProofs only [go_sem, seval, hi1]
   have h := hk1 _ (.inl hn1)
   refine X_exit ?_
   try simp -implicitDefEqProofs only [go_sem, ↓reduceIte, Nat.reduceEqDiff, reduceCtorEq]
   refine kJ_in ?_ ⟨h, rfl, rfl⟩
   exact To.mv1 (BaseR.refl hob) (by simp) trivial
end Go.Pf
end
section
set_option maxRecDepth 100000
namespace Go.Pf
open Go Go.Ab Go.Pp Go.Proofs Go.Proofs.S08
attribute [local go_sem] Lxτ Lxγ gam0 gam1 Int.toNat_natCast tau3 tau4 tau5 tau25 tau27 eI eB eS e_Ins e_Block e_Func e_Prog e_kind_state eL_Intu64
set_option maxHeartbeats 1000000 in
theorem portolanref04_Sets_ok (γ : GT) (ob : OT) {a0 : Ins} {v0_6 : V} (hv0_6 : rdK (getO ob) 1 v0_6 = some (List.map (eI .i64) a0.Args)) {r : Int × Bool} (h : portolanref04_Sets a0 = some r) :
  Valid (Lx γ) 16 [V.agg [vint .i64 a0.Op, vint .i64 a0.D, vint .i64 a0.A, vint .i64 a0.B, vint .i64 a0.N, vint .i64 a0.M, v0_6]] ob (V.tup [vint .i64 r.1, vbool r.2]) ob := by
 refine valid_X (lx_ok γ) (fn := Tryd.f16) (rs := [.tmp 2, .tmp 3]) Tryd.func16 (by kernel_rfl) rfl rfl Tryd.ntmps16 rfl (by simp) fun hb hob => ?_
 have hq := rd4 hv0_6
 rw [portolanref04_Sets] at h
 refine X_sr (lx_ok γ) ?_
 simp -implicitDefEqProofs only [go_sem, seval, hq]
 refine X_seq ?_
 refine X_sr (lx_ok γ) ?_
 obtain ⟨x1, f1, h⟩ := bindE h
 simp -implicitDefEqProofs only [go_sem, seval, hq]
 refine callV_eq (portolanref04_has_ok γ _  f1) rfl rfl ?_
 simp -implicitDefEqProofs only [go_sem, seval, hq]
 cases f2 : x1
 ·rw [if_neg (nF f2)] at h
  refine X_cond (lx_ok γ) ?_
  simp -implicitDefEqProofs only [go_sem, seval, f2, hq]
  refine X_sr (lx_ok γ) ?_
  simp -implicitDefEqProofs only [go_sem, seval, f2, hq]
  obtain rfl := sI h
  refine X_ret ?_
  simp -implicitDefEqProofs only [go_sem, seval, f2, hq]
  exact Rt.mv0 (BaseR.refl hob) (by simp) (VM.tup ⟨vS, vS, trivial⟩)
 ·rw [if_pos f2] at h
  refine X_cond (lx_ok γ) ?_
  simp -implicitDefEqProofs only [go_sem, seval, f2, hq]
  refine X_skip ?_
  try simp -implicitDefEqProofs only [go_sem]
  refine X_sr (lx_ok γ) ?_
  simp -implicitDefEqProofs only [go_sem, seval, f2, hq]
  obtain rfl := sI h
  refine X_ret ?_
  simp -implicitDefEqProofs only [go_sem, seval, f2, hq]
  exact Rt.mv0 (BaseR.refl hob) (by simp) (VM.tup ⟨vS, vS, trivial⟩)
end Go.Pf
end
section
set_option maxRecDepth 100000
namespace Go.Pf
open Go Go.Ab Go.Pp Go.Proofs Go.Proofs.S08
attribute [local go_sem] Lxτ Lxγ gam0 gam1 Int.toNat_natCast tau3 eI eB eS e_Ins e_Block e_Func e_Prog e_kind_state eL_Intu64
set_option maxHeartbeats 1000000 in
theorem portolanref04_within_ok (γ : GT) (ob : OT) {a0 : Int} {a1 : Int} {a2 : Int} {r : Bool} (h : portolanref04_within a0 a1 a2 = some r) :
  Valid (Lx γ) 20 [vint .i64 a0, vint .i64 a1, vint .i64 a2] ob (vbool r) ob := by
 refine valid_X (lx_ok γ) (fn := Tryd.f20) (rs := [.tmp 6]) Tryd.func20 (by kernel_rfl) rfl rfl Tryd.ntmps20 rfl (by simp) fun hb hob => ?_
 rw [portolanref04_within] at h
 refine X_sr (lx_ok γ) ?_
 simp -implicitDefEqProofs only [go_sem, seval]
 refine X_sr (lx_ok γ) ?_
 cases f1 : decide (a1 ≤ a0)
 ·rw [if_neg (nF f1)] at h
  simp -implicitDefEqProofs only [go_sem, seval, f1]
  obtain rfl := sI h
  refine X_ret ?_
  simp -implicitDefEqProofs only [go_sem, seval, f1]
  exact Rt.mv1 (BaseR.refl hob) (by simp) (vS)
 ·rw [if_pos f1] at h
  simp -implicitDefEqProofs only [go_sem, seval, f1]
  obtain rfl := sI h
  refine X_ret ?_
  simp -implicitDefEqProofs only [go_sem, seval, f1]
  exact Rt.mv1 (BaseR.refl hob) (by simp) (vS)
end Go.Pf
end
section
set_option maxRecDepth 100000
namespace Go.Pf
open Go Go.Ab Go.Pp Go.Proofs Go.Proofs.S08
attribute [local go_sem] Lxτ Lxγ gam0 gam1 Int.toNat_natCast List.append_eq List.cons_append List.nil_append tau3 tau5 tau25 tau27 eI eB eS e_Ins e_Block e_Func e_Prog e_kind_state eL_Intu64
set_option maxHeartbeats 1000000 in
theorem portolanref04_bare_ok (γ : GT) (ob : OT) {a0 : Ins} {v0_6 : V} (hv0_6 : rdK (getO ob) 1 v0_6 = some (List.map (eI .i64) a0.Args)) {r : Bool} (h : portolanref04_bare a0 = some r) :
  Valid (Lx γ) 23 [V.agg [vint .i64 a0.Op, vint .i64 a0.D, vint .i64 a0.A, vint .i64 a0.B, vint .i64 a0.N, vint .i64 a0.M, v0_6]] ob (vbool r) ob := by
 refine valid_X (lx_ok γ) (fn := Tryd.f23) (rs := [.tmp 2]) Tryd.func23 (by kernel_rfl) rfl rfl Tryd.ntmps23 rfl (by simp) fun hb hob => ?_
 have hq := rd4 hv0_6
 rw [portolanref04_bare] at h
 refine X_sr (lx_ok γ) ?_
 simp -implicitDefEqProofs only [go_sem, seval, hq]
 refine X_sr (lx_ok γ) ?_
 cases f1 : (a0.D == 0)
 ·rw [if_neg (nF f1)] at h
  obtain ⟨x1, f2, h⟩ := bindE h
  simp -implicitDefEqProofs only [go_sem, seval, f1, hq]
  refine callV_eq (portolanref04_has_ok γ _  f2) rfl rfl ?_
  cases f3 : x1
  ·rw [if_neg (nF f3)] at h
   simp -implicitDefEqProofs only [go_sem, seval, f1, f3, hq]
   obtain rfl := sI h
   refine X_ret ?_
   simp -implicitDefEqProofs only [go_sem, seval, f1, f3, hq]
   exact Rt.mv0 (BaseR.refl hob) (by simp) (vS)
  ·rw [if_pos f3] at h
   cases f4 : (a0.A == 0)
   ·rw [if_neg (nF f4)] at h
    obtain ⟨x2, f5, h⟩ := bindE h
    simp -implicitDefEqProofs only [go_sem, seval, f1, f3, f4, hq]
    refine callV_eq (portolanref04_has_ok γ _  f5) rfl rfl ?_
    cases f6 : x2
    ·rw [if_neg (nF f6)] at h
     simp -implicitDefEqProofs only [go_sem, seval, f1, f3, f4, f6, hq]
     obtain rfl := sI h
     refine X_ret ?_
     simp -implicitDefEqProofs only [go_sem, seval, f1, f3, f4, f6, hq]
     exact Rt.mv0 (BaseR.refl hob) (by simp) (vS)
    ·rw [if_pos f6] at h
     cases f7 : (a0.B == 0)
     ·rw [if_neg (nF f7)] at h
      obtain ⟨x3, f8, h⟩ := bindE h
      simp -implicitDefEqProofs only [go_sem, seval, f1, f3, f4, f6, f7, hq]
      refine callV_eq (portolanref04_has_ok γ _  f8) rfl rfl ?_
      cases f9 : x3
      ·rw [if_neg (nF f9)] at h
       simp -implicitDefEqProofs only [go_sem, seval, f1, f3, f4, f6, f7, f9, hq]
       obtain rfl := sI h
       refine X_ret ?_
       simp -implicitDefEqProofs only [go_sem, seval, f1, f3, f4, f6, f7, f9, hq]
       exact Rt.mv0 (BaseR.refl hob) (by simp) (vS)
      ·rw [if_pos f9] at h
       cases f10 : (a0.N == 0)
       ·rw [if_neg (nF f10)] at h
        obtain ⟨x4, f11, h⟩ := bindE h
        simp -implicitDefEqProofs only [go_sem, seval, f1, f3, f4, f6, f7, f9, f10, hq]
        refine callV_eq (portolanref04_has_ok γ _  f11) rfl rfl ?_
        cases f12 : x4
        ·rw [if_neg (nF f12)] at h
         obtain ⟨x5, f13, h⟩ := bindE h
         simp -implicitDefEqProofs only [go_sem, seval, f1, f3, f4, f6, f7, f9, f10, f12, hq]
         refine callV_eq (portolanref04_has_ok γ _  f13) rfl rfl ?_
         cases f14 : x5
         ·rw [if_neg (nF f14)] at h
          simp -implicitDefEqProofs only [go_sem, seval, f1, f3, f4, f6, f7, f9, f10, f12, f14, hq]
          obtain rfl := sI h
          refine X_ret ?_
          simp -implicitDefEqProofs only [go_sem, seval, f1, f3, f4, f6, f7, f9, f10, f12, f14, hq]
          exact Rt.mv0 (BaseR.refl hob) (by simp) (vS)
         ·rw [if_pos f14] at h
          cases f15 : (a0.M == 0)
          ·rw [if_neg (nF f15)] at h
           obtain ⟨x6, f16, h⟩ := bindE h
           simp -implicitDefEqProofs only [go_sem, seval, f1, f3, f4, f6, f7, f9, f10, f12, f14, f15, hq]
           refine callV_eq (portolanref04_has_ok γ _  f16) rfl rfl ?_
           cases f17 : x6
           ·rw [if_neg (nF f17)] at h
            simp -implicitDefEqProofs only [go_sem, seval, f1, f3, f4, f6, f7, f9, f10, f12, f14, f15, f17, hq]
            obtain rfl := sI h
            refine X_ret ?_
            simp -implicitDefEqProofs only [go_sem, seval, f1, f3, f4, f6, f7, f9, f10, f12, f14, f15, f17, hq]
            exact Rt.mv0 (BaseR.refl hob) (by simp) (vS)
           ·rw [if_pos f17] at h
            cases f18 : ((List.length a0.Args : Int) == 0)
            ·rw [if_neg (nF f18)] at h
             obtain ⟨x7, f19, h⟩ := bindE h
             simp -implicitDefEqProofs only [go_sem, seval, f1, f3, f4, f6, f7, f9, f10, f12, f14, f15, f17, f18, hq]
             refine callV_eq (portolanref04_has_ok γ _  f19) rfl rfl ?_
             simp -implicitDefEqProofs only [go_sem, seval, f1, f3, f4, f6, f7, f9, f10, f12, f14, f15, f17, f18, hq]
             obtain rfl := sI h
             refine X_ret ?_
             simp -implicitDefEqProofs only [go_sem, seval, f1, f3, f4, f6, f7, f9, f10, f12, f14, f15, f17, f18, hq]
             exact Rt.mv0 (BaseR.refl hob) (by simp) (vS)
            ·rw [if_pos f18] at h
             simp -implicitDefEqProofs only [go_sem, seval, f1, f3, f4, f6, f7, f9, f10, f12, f14, f15, f17, f18, hq]
             obtain rfl := sI h
             refine X_ret ?_
             simp -implicitDefEqProofs only [go_sem, seval, f1, f3, f4, f6, f7, f9, f10, f12, f14, f15, f17, f18, hq]
             exact Rt.mv0 (BaseR.refl hob) (by simp) (vS)
          ·rw [if_pos f15] at h
           cases f20 : ((List.length a0.Args : Int) == 0)
           ·rw [if_neg (nF f20)] at h
            obtain ⟨x8, f21, h⟩ := bindE h
            simp -implicitDefEqProofs only [go_sem, seval, f1, f3, f4, f6, f7, f9, f10, f12, f14, f15, f20, hq]
            refine callV_eq (portolanref04_has_ok γ _  f21) rfl rfl ?_
            simp -implicitDefEqProofs only [go_sem, seval, f1, f3, f4, f6, f7, f9, f10, f12, f14, f15, f20, hq]
            obtain rfl := sI h
            refine X_ret ?_
            simp -implicitDefEqProofs only [go_sem, seval, f1, f3, f4, f6, f7, f9, f10, f12, f14, f15, f20, hq]
            exact Rt.mv0 (BaseR.refl hob) (by simp) (vS)
           ·rw [if_pos f20] at h
            simp -implicitDefEqProofs only [go_sem, seval, f1, f3, f4, f6, f7, f9, f10, f12, f14, f15, f20, hq]
            obtain rfl := sI h
            refine X_ret ?_
            simp -implicitDefEqProofs only [go_sem, seval, f1, f3, f4, f6, f7, f9, f10, f12, f14, f15, f20, hq]
            exact Rt.mv0 (BaseR.refl hob) (by simp) (vS)
        ·rw [if_pos f12] at h
         cases f22 : (a0.M == 0)
         ·rw [if_neg (nF f22)] at h
          obtain ⟨x9, f23, h⟩ := bindE h
          simp -implicitDefEqProofs only [go_sem, seval, f1, f3, f4, f6, f7, f9, f10, f12, f22, hq]
          refine callV_eq (portolanref04_has_ok γ _  f23) rfl rfl ?_
          cases f24 : x9
          ·rw [if_neg (nF f24)] at h
           simp -implicitDefEqProofs only [go_sem, seval, f1, f3, f4, f6, f7, f9, f10, f12, f22, f24, hq]
           obtain rfl := sI h
           refine X_ret ?_
           simp -implicitDefEqProofs only [go_sem, seval, f1, f3, f4, f6, f7, f9, f10, f12, f22, f24, hq]
           exact Rt.mv0 (BaseR.refl hob) (by simp) (vS)
          ·rw [if_pos f24] at h
           cases f25 : ((List.length a0.Args : Int) == 0)
           ·rw [if_neg (nF f25)] at h
            obtain ⟨x10, f26, h⟩ := bindE h
            simp -implicitDefEqProofs only [go_sem, seval, f1, f3, f4, f6, f7, f9, f10, f12, f22, f24, f25, hq]
            refine callV_eq (portolanref04_has_ok γ _  f26) rfl rfl ?_
            simp -implicitDefEqProofs only [go_sem, seval, f1, f3, f4, f6, f7, f9, f10, f12, f22, f24, f25, hq]
            obtain rfl := sI h
            refine X_ret ?_
            simp -implicitDefEqProofs only [go_sem, seval, f1, f3, f4, f6, f7, f9, f10, f12, f22, f24, f25, hq]
            exact Rt.mv0 (BaseR.refl hob) (by simp) (vS)
           ·rw [if_pos f25] at h
            simp -implicitDefEqProofs only [go_sem, seval, f1, f3, f4, f6, f7, f9, f10, f12, f22, f24, f25, hq]
            obtain rfl := sI h
            refine X_ret ?_
            simp -implicitDefEqProofs only [go_sem, seval, f1, f3, f4, f6, f7, f9, f10, f12, f22, f24, f25, hq]
            exact Rt.mv0 (BaseR.refl hob) (by simp) (vS)
         ·rw [if_pos f22] at h
          cases f27 : ((List.length a0.Args : Int) == 0)
          ·rw [if_neg (nF f27)] at h
           obtain ⟨x11, f28, h⟩ := bindE h
           simp -implicitDefEqProofs only [go_sem, seval, f1, f3, f4, f6, f7, f9, f10, f12, f22, f27, hq]
           refine callV_eq (portolanref04_has_ok γ _  f28) rfl rfl ?_
           simp -implicitDefEqProofs only [go_sem, seval, f1, f3, f4, f6, f7, f9, f10, f12, f22, f27, hq]
           obtain rfl := sI h
           refine X_ret ?_
           simp -implicitDefEqProofs only [go_sem, seval, f1, f3, f4, f6, f7, f9, f10, f12, f22, f27, hq]
           exact Rt.mv0 (BaseR.refl hob) (by simp) (vS)
          ·rw [if_pos f27] at h
           simp -implicitDefEqProofs only [go_sem, seval, f1, f3, f4, f6, f7, f9, f10, f12, f22, f27, hq]
           obtain rfl := sI h
           refine X_ret ?_
           simp -implicitDefEqProofs only [go_sem, seval, f1, f3, f4, f6, f7, f9, f10, f12, f22, f27, hq]
           exact Rt.mv0 (BaseR.refl hob) (by simp) (vS)
       ·rw [if_pos f10] at h
        cases f29 : (a0.M == 0)
        ·rw [if_neg (nF f29)] at h
         obtain ⟨x12, f30, h⟩ := bindE h
         simp -implicitDefEqProofs only [go_sem, seval, f1, f3, f4, f6, f7, f9, f10, f29, hq]
         refine callV_eq (portolanref04_has_ok γ _  f30) rfl rfl ?_
         cases f31 : x12
         ·rw [if_neg (nF f31)] at h
          simp -implicitDefEqProofs only [go_sem, seval, f1, f3, f4, f6, f7, f9, f10, f29, f31, hq]
          obtain rfl := sI h
          refine X_ret ?_
          simp -implicitDefEqProofs only [go_sem, seval, f1, f3, f4, f6, f7, f9, f10, f29, f31, hq]
          exact Rt.mv0 (BaseR.refl hob) (by simp) (vS)
         ·rw [if_pos f31] at h
          cases f32 : ((List.length a0.Args : Int) == 0)
          ·rw [if_neg (nF f32)] at h
           obtain ⟨x13, f33, h⟩ := bindE h
           simp -implicitDefEqProofs only [go_sem, seval, f1, f3, f4, f6, f7, f9, f10, f29, f31, f32, hq]
           refine callV_eq (portolanref04_has_ok γ _  f33) rfl rfl ?_
           simp -implicitDefEqProofs only [go_sem, seval, f1, f3, f4, f6, f7, f9, f10, f29, f31, f32, hq]
           obtain rfl := sI h
           refine X_ret ?_
           simp -implicitDefEqProofs only [go_sem, seval, f1, f3, f4, f6, f7, f9, f10, f29, f31, f32, hq]
           exact Rt.mv0 (BaseR.refl hob) (by simp) (vS)
          ·rw [if_pos f32] at h
           simp -implicitDefEqProofs only [go_sem, seval, f1, f3, f4, f6, f7, f9, f10, f29, f31, f32, hq]
           obtain rfl := sI h
           refine X_ret ?_
           simp -implicitDefEqProofs only [go_sem, seval, f1, f3, f4, f6, f7, f9, f10, f29, f31, f32, hq]
           exact Rt.mv0 (BaseR.refl hob) (by simp) (vS)
        ·rw [if_pos f29] at h
         cases f34 : ((List.length a0.Args : Int) == 0)
         ·rw [if_neg (nF f34)] at h
          obtain ⟨x14, f35, h⟩ := bindE h
          simp -implicitDefEqProofs only [go_sem, seval, f1, f3, f4, f6, f7, f9, f10, f29, f34, hq]
          refine callV_eq (portolanref04_has_ok γ _  f35) rfl rfl ?_
          simp -implicitDefEqProofs only [go_sem, seval, f1, f3, f4, f6, f7, f9, f10, f29, f34, hq]
          obtain rfl := sI h
          refine X_ret ?_
          simp -implicitDefEqProofs only [go_sem, seval, f1, f3, f4, f6, f7, f9, f10, f29, f34, hq]
          exact Rt.mv0 (BaseR.refl hob) (by simp) (vS)
         ·rw [if_pos f34] at h
          simp -implicitDefEqProofs only [go_sem, seval, f1, f3, f4, f6, f7, f9, f10, f29, f34, hq]
          obtain rfl := sI h
          refine X_ret ?_
          simp -implicitDefEqProofs only [go_sem, seval, f1, f3, f4, f6, f7, f9, f10, f29, f34, hq]
          exact Rt.mv0 (BaseR.refl hob) (by simp) (vS)
     ·rw [if_pos f7] at h
      cases f36 : (a0.N == 0)
      ·rw [if_neg (nF f36)] at h
       obtain ⟨x15, f37, h⟩ := bindE h
       simp -implicitDefEqProofs only [go_sem, seval, f1, f3, f4, f6, f7, f36, hq]
       refine callV_eq (portolanref04_has_ok γ _  f37) rfl rfl ?_
       cases f38 : x15
       ·rw [if_neg (nF f38)] at h
        obtain ⟨x16, f39, h⟩ := bindE h
        simp -implicitDefEqProofs only [go_sem, seval, f1, f3, f4, f6, f7, f36, f38, hq]
        refine callV_eq (portolanref04_has_ok γ _  f39) rfl rfl ?_
        cases f40 : x16
        ·rw [if_neg (nF f40)] at h
         simp -implicitDefEqProofs only [go_sem, seval, f1, f3, f4, f6, f7, f36, f38, f40, hq]
         obtain rfl := sI h
         refine X_ret ?_
         simp -implicitDefEqProofs only [go_sem, seval, f1, f3, f4, f6, f7, f36, f38, f40, hq]
         exact Rt.mv0 (BaseR.refl hob) (by simp) (vS)
        ·rw [if_pos f40] at h
         cases f41 : (a0.M == 0)
         ·rw [if_neg (nF f41)] at h
          obtain ⟨x17, f42, h⟩ := bindE h
          simp -implicitDefEqProofs only [go_sem, seval, f1, f3, f4, f6, f7, f36, f38, f40, f41, hq]
          refine callV_eq (portolanref04_has_ok γ _  f42) rfl rfl ?_
          cases f43 : x17
          ·rw [if_neg (nF f43)] at h
           simp -implicitDefEqProofs only [go_sem, seval, f1, f3, f4, f6, f7, f36, f38, f40, f41, f43, hq]
           obtain rfl := sI h
           refine X_ret ?_
           simp -implicitDefEqProofs only [go_sem, seval, f1, f3, f4, f6, f7, f36, f38, f40, f41, f43, hq]
           exact Rt.mv0 (BaseR.refl hob) (by simp) (vS)
          ·rw [if_pos f43] at h
           cases f44 : ((List.length a0.Args : Int) == 0)
           ·rw [if_neg (nF f44)] at h
            obtain ⟨x18, f45, h⟩ := bindE h
            simp -implicitDefEqProofs only [go_sem, seval, f1, f3, f4, f6, f7, f36, f38, f40, f41, f43, f44, hq]
            refine callV_eq (portolanref04_has_ok γ _  f45) rfl rfl ?_
            simp -implicitDefEqProofs only [go_sem, seval, f1, f3, f4, f6, f7, f36, f38, f40, f41, f43, f44, hq]
            obtain rfl := sI h
            refine X_ret ?_
            simp -implicitDefEqProofs only [go_sem, seval, f1, f3, f4, f6, f7, f36, f38, f40, f41, f43, f44, hq]
            exact Rt.mv0 (BaseR.refl hob) (by simp) (vS)
           ·rw [if_pos f44] at h
            simp -implicitDefEqProofs only [go_sem, seval, f1, f3, f4, f6, f7, f36, f38, f40, f41, f43, f44, hq]
            obtain rfl := sI h
            refine X_ret ?_
            simp -implicitDefEqProofs only [go_sem, seval, f1, f3, f4, f6, f7, f36, f38, f40, f41, f43, f44, hq]
            exact Rt.mv0 (BaseR.refl hob) (by simp) (vS)
         ·rw [if_pos f41] at h
          cases f46 : ((List.length a0.Args : Int) == 0)
          ·rw [if_neg (nF f46)] at h
           obtain ⟨x19, f47, h⟩ := bindE h
           simp -implicitDefEqProofs only [go_sem, seval, f1, f3, f4, f6, f7, f36, f38, f40, f41, f46, hq]
           refine callV_eq (portolanref04_has_ok γ _  f47) rfl rfl ?_
           simp -implicitDefEqProofs only [go_sem, seval, f1, f3, f4, f6, f7, f36, f38, f40, f41, f46, hq]
           obtain rfl := sI h
           refine X_ret ?_
           simp -implicitDefEqProofs only [go_sem, seval, f1, f3, f4, f6, f7, f36, f38, f40, f41, f46, hq]
           exact Rt.mv0 (BaseR.refl hob) (by simp) (vS)
          ·rw [if_pos f46] at h
           simp -implicitDefEqProofs only [go_sem, seval, f1, f3, f4, f6, f7, f36, f38, f40, f41, f46, hq]
           obtain rfl := sI h
           refine X_ret ?_
           simp -implicitDefEqProofs only [go_sem, seval, f1, f3, f4, f6, f7, f36, f38, f40, f41, f46, hq]
           exact Rt.mv0 (BaseR.refl hob) (by simp) (vS)
       ·rw [if_pos f38] at h
        cases f48 : (a0.M == 0)
        ·rw [if_neg (nF f48)] at h
         obtain ⟨x20, f49, h⟩ := bindE h
         simp -implicitDefEqProofs only [go_sem, seval, f1, f3, f4, f6, f7, f36, f38, f48, hq]
         refine callV_eq (portolanref04_has_ok γ _  f49) rfl rfl ?_
         cases f50 : x20
         ·rw [if_neg (nF f50)] at h
          simp -implicitDefEqProofs only [go_sem, seval, f1, f3, f4, f6, f7, f36, f38, f48, f50, hq]
          obtain rfl := sI h
          refine X_ret ?_
          simp -implicitDefEqProofs only [go_sem, seval, f1, f3, f4, f6, f7, f36, f38, f48, f50, hq]
          exact Rt.mv0 (BaseR.refl hob) (by simp) (vS)
         ·rw [if_pos f50] at h
          cases f51 : ((List.length a0.Args : Int) == 0)
          ·rw [if_neg (nF f51)] at h
           obtain ⟨x21, f52, h⟩ := bindE h
           simp -implicitDefEqProofs only [go_sem, seval, f1, f3, f4, f6, f7, f36, f38, f48, f50, f51, hq]
           refine callV_eq (portolanref04_has_ok γ _  f52) rfl rfl ?_
           simp -implicitDefEqProofs only [go_sem, seval, f1, f3, f4, f6, f7, f36, f38, f48, f50, f51, hq]
           obtain rfl := sI h
           refine X_ret ?_
           simp -implicitDefEqProofs only [go_sem, seval, f1, f3, f4, f6, f7, f36, f38, f48, f50, f51, hq]
           exact Rt.mv0 (BaseR.refl hob) (by simp) (vS)
          ·rw [if_pos f51] at h
           simp -implicitDefEqProofs only [go_sem, seval, f1, f3, f4, f6, f7, f36, f38, f48, f50, f51, hq]
           obtain rfl := sI h
           refine X_ret ?_
           simp -implicitDefEqProofs only [go_sem, seval, f1, f3, f4, f6, f7, f36, f38, f48, f50, f51, hq]
           exact Rt.mv0 (BaseR.refl hob) (by simp) (vS)
        ·rw [if_pos f48] at h
         cases f53 : ((List.length a0.Args : Int) == 0)
         ·rw [if_neg (nF f53)] at h
          obtain ⟨x22, f54, h⟩ := bindE h
          simp -implicitDefEqProofs only [go_sem, seval, f1, f3, f4, f6, f7, f36, f38, f48, f53, hq]
          refine callV_eq (portolanref04_has_ok γ _  f54) rfl rfl ?_
          simp -implicitDefEqProofs only [go_sem, seval, f1, f3, f4, f6, f7, f36, f38, f48, f53, hq]
          obtain rfl := sI h
          refine X_ret ?_
          simp -implicitDefEqProofs only [go_sem, seval, f1, f3, f4, f6, f7, f36, f38, f48, f53, hq]
          exact Rt.mv0 (BaseR.refl hob) (by simp) (vS)
         ·rw [if_pos f53] at h
          simp -implicitDefEqProofs only [go_sem, seval, f1, f3, f4, f6, f7, f36, f38, f48, f53, hq]
          obtain rfl := sI h
          refine X_ret ?_
          simp -implicitDefEqProofs only [go_sem, seval, f1, f3, f4, f6, f7, f36, f38, f48, f53, hq]
          exact Rt.mv0 (BaseR.refl hob) (by simp) (vS)
      ·rw [if_pos f36] at h
       cases f55 : (a0.M == 0)
       ·rw [if_neg (nF f55)] at h
        obtain ⟨x23, f56, h⟩ := bindE h
        simp -implicitDefEqProofs only [go_sem, seval, f1, f3, f4, f6, f7, f36, f55, hq]
        refine callV_eq (portolanref04_has_ok γ _  f56) rfl rfl ?_
        cases f57 : x23
        ·rw [if_neg (nF f57)] at h
         simp -implicitDefEqProofs only [go_sem, seval, f1, f3, f4, f6, f7, f36, f55, f57, hq]
         obtain rfl := sI h
         refine X_ret ?_
         simp -implicitDefEqProofs only [go_sem, seval, f1, f3, f4, f6, f7, f36, f55, f57, hq]
         exact Rt.mv0 (BaseR.refl hob) (by simp) (vS)
        ·rw [if_pos f57] at h
         cases f58 : ((List.length a0.Args : Int) == 0)
         ·rw [if_neg (nF f58)] at h
          obtain ⟨x24, f59, h⟩ := bindE h
          simp -implicitDefEqProofs only [go_sem, seval, f1, f3, f4, f6, f7, f36, f55, f57, f58, hq]
          refine callV_eq (portolanref04_has_ok γ _  f59) rfl rfl ?_
          simp -implicitDefEqProofs only [go_sem, seval, f1, f3, f4, f6, f7, f36, f55, f57, f58, hq]
          obtain rfl := sI h
          refine X_ret ?_
          simp -implicitDefEqProofs only [go_sem, seval, f1, f3, f4, f6, f7, f36, f55, f57, f58, hq]
          exact Rt.mv0 (BaseR.refl hob) (by simp) (vS)
         ·rw [if_pos f58] at h
          simp -implicitDefEqProofs only [go_sem, seval, f1, f3, f4, f6, f7, f36, f55, f57, f58, hq]
          obtain rfl := sI h
          refine X_ret ?_
          simp -implicitDefEqProofs only [go_sem, seval, f1, f3, f4, f6, f7, f36, f55, f57, f58, hq]
          exact Rt.mv0 (BaseR.refl hob) (by simp) (vS)
       ·rw [if_pos f55] at h
        cases f60 : ((List.length a0.Args : Int) == 0)
        ·rw [if_neg (nF f60)] at h
         obtain ⟨x25, f61, h⟩ := bindE h
         simp -implicitDefEqProofs only [go_sem, seval, f1, f3, f4, f6, f7, f36, f55, f60, hq]
         refine callV_eq (portolanref04_has_ok γ _  f61) rfl rfl ?_
         simp -implicitDefEqProofs only [go_sem, seval, f1, f3, f4, f6, f7, f36, f55, f60, hq]
         obtain rfl := sI h
         refine X_ret ?_
         simp -implicitDefEqProofs only [go_sem, seval, f1, f3, f4, f6, f7, f36, f55, f60, hq]
         exact Rt.mv0 (BaseR.refl hob) (by simp) (vS)
        ·rw [if_pos f60] at h
         simp -implicitDefEqProofs only [go_sem, seval, f1, f3, f4, f6, f7, f36, f55, f60, hq]
         obtain rfl := sI h
         refine X_ret ?_
         simp -implicitDefEqProofs only [go_sem, seval, f1, f3, f4, f6, f7, f36, f55, f60, hq]
         exact Rt.mv0 (BaseR.refl hob) (by simp) (vS)
   ·rw [if_pos f4] at h
    cases f62 : (a0.B == 0)
    ·rw [if_neg (nF f62)] at h
     obtain ⟨x26, f63, h⟩ := bindE h
     simp -implicitDefEqProofs only [go_sem, seval, f1, f3, f4, f62, hq]
     refine callV_eq (portolanref04_has_ok γ _  f63) rfl rfl ?_
     cases f64 : x26
     ·rw [if_neg (nF f64)] at h
      simp -implicitDefEqProofs only [go_sem, seval, f1, f3, f4, f62, f64, hq]
      obtain rfl := sI h
      refine X_ret ?_
      simp -implicitDefEqProofs only [go_sem, seval, f1, f3, f4, f62, f64, hq]
      exact Rt.mv0 (BaseR.refl hob) (by simp) (vS)
     ·rw [if_pos f64] at h
      cases f65 : (a0.N == 0)
      ·rw [if_neg (nF f65)] at h
       obtain ⟨x27, f66, h⟩ := bindE h
       simp -implicitDefEqProofs only [go_sem, seval, f1, f3, f4, f62, f64, f65, hq]
       refine callV_eq (portolanref04_has_ok γ _  f66) rfl rfl ?_
       cases f67 : x27
       ·rw [if_neg (nF f67)] at h
        obtain ⟨x28, f68, h⟩ := bindE h
        simp -implicitDefEqProofs only [go_sem, seval, f1, f3, f4, f62, f64, f65, f67, hq]
        refine callV_eq (portolanref04_has_ok γ _  f68) rfl rfl ?_
        cases f69 : x28
        ·rw [if_neg (nF f69)] at h
         simp -implicitDefEqProofs only [go_sem, seval, f1, f3, f4, f62, f64, f65, f67, f69, hq]
         obtain rfl := sI h
         refine X_ret ?_
         simp -implicitDefEqProofs only [go_sem, seval, f1, f3, f4, f62, f64, f65, f67, f69, hq]
         exact Rt.mv0 (BaseR.refl hob) (by simp) (vS)
        ·rw [if_pos f69] at h
         cases f70 : (a0.M == 0)
         ·rw [if_neg (nF f70)] at h
          obtain ⟨x29, f71, h⟩ := bindE h
          simp -implicitDefEqProofs only [go_sem, seval, f1, f3, f4, f62, f64, f65, f67, f69, f70, hq]
          refine callV_eq (portolanref04_has_ok γ _  f71) rfl rfl ?_
          cases f72 : x29
          ·rw [if_neg (nF f72)] at h
           simp -implicitDefEqProofs only [go_sem, seval, f1, f3, f4, f62, f64, f65, f67, f69, f70, f72, hq]
           obtain rfl := sI h
           refine X_ret ?_
           simp -implicitDefEqProofs only [go_sem, seval, f1, f3, f4, f62, f64, f65, f67, f69, f70, f72, hq]
           exact Rt.mv0 (BaseR.refl hob) (by simp) (vS)
          ·rw [if_pos f72] at h
           cases f73 : ((List.length a0.Args : Int) == 0)
           ·rw [if_neg (nF f73)] at h
            obtain ⟨x30, f74, h⟩ := bindE h
            simp -implicitDefEqProofs only [go_sem, seval, f1, f3, f4, f62, f64, f65, f67, f69, f70, f72, f73, hq]
            refine callV_eq (portolanref04_has_ok γ _  f74) rfl rfl ?_
            simp -implicitDefEqProofs only [go_sem, seval, f1, f3, f4, f62, f64, f65, f67, f69, f70, f72, f73, hq]
            obtain rfl := sI h
            refine X_ret ?_
            simp -implicitDefEqProofs only [go_sem, seval, f1, f3, f4, f62, f64, f65, f67, f69, f70, f72, f73, hq]
            exact Rt.mv0 (BaseR.refl hob) (by simp) (vS)
           ·rw [if_pos f73] at h
            simp -implicitDefEqProofs only [go_sem, seval, f1, f3, f4, f62, f64, f65, f67, f69, f70, f72, f73, hq]
            obtain rfl := sI h
            refine X_ret ?_
            simp -implicitDefEqProofs only [go_sem, seval, f1, f3, f4, f62, f64, f65, f67, f69, f70, f72, f73, hq]
            exact Rt.mv0 (BaseR.refl hob) (by simp) (vS)
         ·rw [if_pos f70] at h
          cases f75 : ((List.length a0.Args : Int) == 0)
          ·rw [if_neg (nF f75)] at h
           obtain ⟨x31, f76, h⟩ := bindE h
           simp -implicitDefEqProofs only [go_sem, seval, f1, f3, f4, f62, f64, f65, f67, f69, f70, f75, hq]
           refine callV_eq (portolanref04_has_ok γ _  f76) rfl rfl ?_
           simp -implicitDefEqProofs only [go_sem, seval, f1, f3, f4, f62, f64, f65, f67, f69, f70, f75, hq]
           obtain rfl := sI h
           refine X_ret ?_
           simp -implicitDefEqProofs only [go_sem, seval, f1, f3, f4, f62, f64, f65, f67, f69, f70, f75, hq]
           exact Rt.mv0 (BaseR.refl hob) (by simp) (vS)
          ·rw [if_pos f75] at h
           simp -implicitDefEqProofs only [go_sem, seval, f1, f3, f4, f62, f64, f65, f67, f69, f70, f75, hq]
           obtain rfl := sI h
           refine X_ret ?_
           simp -implicitDefEqProofs only [go_sem, seval, f1, f3, f4, f62, f64, f65, f67, f69, f70, f75, hq]
           exact Rt.mv0 (BaseR.refl hob) (by simp) (vS)
       ·rw [if_pos f67] at h
        cases f77 : (a0.M == 0)
        ·rw [if_neg (nF f77)] at h
         obtain ⟨x32, f78, h⟩ := bindE h
         simp -implicitDefEqProofs only [go_sem, seval, f1, f3, f4, f62, f64, f65, f67, f77, hq]
         refine callV_eq (portolanref04_has_ok γ _  f78) rfl rfl ?_
         cases f79 : x32
         ·rw [if_neg (nF f79)] at h
          simp -implicitDefEqProofs only [go_sem, seval, f1, f3, f4, f62, f64, f65, f67, f77, f79, hq]
          obtain rfl := sI h
          refine X_ret ?_
          simp -implicitDefEqProofs only [go_sem, seval, f1, f3, f4, f62, f64, f65, f67, f77, f79, hq]
          exact Rt.mv0 (BaseR.refl hob) (by simp) (vS)
         ·rw [if_pos f79] at h
          cases f80 : ((List.length a0.Args : Int) == 0)
          ·rw [if_neg (nF f80)] at h
           obtain ⟨x33, f81, h⟩ := bindE h
           simp -implicitDefEqProofs only [go_sem, seval, f1, f3, f4, f62, f64, f65, f67, f77, f79, f80, hq]
           refine callV_eq (portolanref04_has_ok γ _  f81) rfl rfl ?_
           simp -implicitDefEqProofs only [go_sem, seval, f1, f3, f4, f62, f64, f65, f67, f77, f79, f80, hq]
           obtain rfl := sI h
           refine X_ret ?_
           simp -implicitDefEqProofs only [go_sem, seval, f1, f3, f4, f62, f64, f65, f67, f77, f79, f80, hq]
           exact Rt.mv0 (BaseR.refl hob) (by simp) (vS)
          ·rw [if_pos f80] at h
           simp -implicitDefEqProofs only [go_sem, seval, f1, f3, f4, f62, f64, f65, f67, f77, f79, f80, hq]
           obtain rfl := sI h
           refine X_ret ?_
           simp -implicitDefEqProofs only [go_sem, seval, f1, f3, f4, f62, f64, f65, f67, f77, f79, f80, hq]
           exact Rt.mv0 (BaseR.refl hob) (by simp) (vS)
        ·rw [if_pos f77] at h
         cases f82 : ((List.length a0.Args : Int) == 0)
         ·rw [if_neg (nF f82)] at h
          obtain ⟨x34, f83, h⟩ := bindE h
          simp -implicitDefEqProofs only [go_sem, seval, f1, f3, f4, f62, f64, f65, f67, f77, f82, hq]
          refine callV_eq (portolanref04_has_ok γ _  f83) rfl rfl ?_
          simp -implicitDefEqProofs only [go_sem, seval, f1, f3, f4, f62, f64, f65, f67, f77, f82, hq]
          obtain rfl := sI h
          refine X_ret ?_
          simp -implicitDefEqProofs only [go_sem, seval, f1, f3, f4, f62, f64, f65, f67, f77, f82, hq]
          exact Rt.mv0 (BaseR.refl hob) (by simp) (vS)
         ·rw [if_pos f82] at h
          simp -implicitDefEqProofs only [go_sem, seval, f1, f3, f4, f62, f64, f65, f67, f77, f82, hq]
          obtain rfl := sI h
          refine X_ret ?_
          simp -implicitDefEqProofs only [go_sem, seval, f1, f3, f4, f62, f64, f65, f67, f77, f82, hq]
          exact Rt.mv0 (BaseR.refl hob) (by simp) (vS)
      ·rw [if_pos f65] at h
       cases f84 : (a0.M == 0)
       ·rw [if_neg (nF f84)] at h
        obtain ⟨x35, f85, h⟩ := bindE h
        simp -implicitDefEqProofs only [go_sem, seval, f1, f3, f4, f62, f64, f65, f84, hq]
        refine callV_eq (portolanref04_has_ok γ _  f85) rfl rfl ?_
        cases f86 : x35
        ·rw [if_neg (nF f86)] at h
         simp -implicitDefEqProofs only [go_sem, seval, f1, f3, f4, f62, f64, f65, f84, f86, hq]
         obtain rfl := sI h
         refine X_ret ?_
         simp -implicitDefEqProofs only [go_sem, seval, f1, f3, f4, f62, f64, f65, f84, f86, hq]
         exact Rt.mv0 (BaseR.refl hob) (by simp) (vS)
        ·rw [if_pos f86] at h
         cases f87 : ((List.length a0.Args : Int) == 0)
         ·rw [if_neg (nF f87)] at h
          obtain ⟨x36, f88, h⟩ := bindE h
          simp -implicitDefEqProofs only [go_sem, seval, f1, f3, f4, f62, f64, f65, f84, f86, f87, hq]
          refine callV_eq (portolanref04_has_ok γ _  f88) rfl rfl ?_
          simp -implicitDefEqProofs only [go_sem, seval, f1, f3, f4, f62, f64, f65, f84, f86, f87, hq]
          obtain rfl := sI h
          refine X_ret ?_
          simp -implicitDefEqProofs only [go_sem, seval, f1, f3, f4, f62, f64, f65, f84, f86, f87, hq]
          exact Rt.mv0 (BaseR.refl hob) (by simp) (vS)
         ·rw [if_pos f87] at h
          simp -implicitDefEqProofs only [go_sem, seval, f1, f3, f4, f62, f64, f65, f84, f86, f87, hq]
          obtain rfl := sI h
          refine X_ret ?_
          simp -implicitDefEqProofs only [go_sem, seval, f1, f3, f4, f62, f64, f65, f84, f86, f87, hq]
          exact Rt.mv0 (BaseR.refl hob) (by simp) (vS)
       ·rw [if_pos f84] at h
        cases f89 : ((List.length a0.Args : Int) == 0)
        ·rw [if_neg (nF f89)] at h
         obtain ⟨x37, f90, h⟩ := bindE h
         simp -implicitDefEqProofs only [go_sem, seval, f1, f3, f4, f62, f64, f65, f84, f89, hq]
         refine callV_eq (portolanref04_has_ok γ _  f90) rfl rfl ?_
         simp -implicitDefEqProofs only [go_sem, seval, f1, f3, f4, f62, f64, f65, f84, f89, hq]
         obtain rfl := sI h
         refine X_ret ?_
         simp -implicitDefEqProofs only [go_sem, seval, f1, f3, f4, f62, f64, f65, f84, f89, hq]
         exact Rt.mv0 (BaseR.refl hob) (by simp) (vS)
        ·rw [if_pos f89] at h
         simp -implicitDefEqProofs only [go_sem, seval, f1, f3, f4, f62, f64, f65, f84, f89, hq]
         obtain rfl := sI h
         refine X_ret ?_
         simp -implicitDefEqProofs only [go_sem, seval, f1, f3, f4, f62, f64, f65, f84, f89, hq]
         exact Rt.mv0 (BaseR.refl hob) (by simp) (vS)
    ·rw [if_pos f62] at h
     cases f91 : (a0.N == 0)
     ·rw [if_neg (nF f91)] at h
      obtain ⟨x38, f92, h⟩ := bindE h
      simp -implicitDefEqProofs only [go_sem, seval, f1, f3, f4, f62, f91, hq]
      refine callV_eq (portolanref04_has_ok γ _  f92) rfl rfl ?_
      cases f93 : x38
      ·rw [if_neg (nF f93)] at h
       obtain ⟨x39, f94, h⟩ := bindE h
       simp -implicitDefEqProofs only [go_sem, seval, f1, f3, f4, f62, f91, f93, hq]
       refine callV_eq (portolanref04_has_ok γ _  f94) rfl rfl ?_
       cases f95 : x39
       ·rw [if_neg (nF f95)] at h
        simp -implicitDefEqProofs only [go_sem, seval, f1, f3, f4, f62, f91, f93, f95, hq]
        obtain rfl := sI h
        refine X_ret ?_
        simp -implicitDefEqProofs only [go_sem, seval, f1, f3, f4, f62, f91, f93, f95, hq]
        exact Rt.mv0 (BaseR.refl hob) (by simp) (vS)
       ·rw [if_pos f95] at h
        cases f96 : (a0.M == 0)
        ·rw [if_neg (nF f96)] at h
         obtain ⟨x40, f97, h⟩ := bindE h
         simp -implicitDefEqProofs only [go_sem, seval, f1, f3, f4, f62, f91, f93, f95, f96, hq]
         refine callV_eq (portolanref04_has_ok γ _  f97) rfl rfl ?_
         cases f98 : x40
         ·rw [if_neg (nF f98)] at h
          simp -implicitDefEqProofs only [go_sem, seval, f1, f3, f4, f62, f91, f93, f95, f96, f98, hq]
          obtain rfl := sI h
          refine X_ret ?_
          simp -implicitDefEqProofs only [go_sem, seval, f1, f3, f4, f62, f91, f93, f95, f96, f98, hq]
          exact Rt.mv0 (BaseR.refl hob) (by simp) (vS)
         ·rw [if_pos f98] at h
          cases f99 : ((List.length a0.Args : Int) == 0)
          ·rw [if_neg (nF f99)] at h
           obtain ⟨x41, f100, h⟩ := bindE h
           simp -implicitDefEqProofs only [go_sem, seval, f1, f3, f4, f62, f91, f93, f95, f96, f98, f99, hq]
           refine callV_eq (portolanref04_has_ok γ _  f100) rfl rfl ?_
           simp -implicitDefEqProofs only [go_sem, seval, f1, f3, f4, f62, f91, f93, f95, f96, f98, f99, hq]
           obtain rfl := sI h
           refine X_ret ?_
           simp -implicitDefEqProofs only [go_sem, seval, f1, f3, f4, f62, f91, f93, f95, f96, f98, f99, hq]
           exact Rt.mv0 (BaseR.refl hob) (by simp) (vS)
          ·rw [if_pos f99] at h
           simp -implicitDefEqProofs only [go_sem, seval, f1, f3, f4, f62, f91, f93, f95, f96, f98, f99, hq]
           obtain rfl := sI h
           refine X_ret ?_
           simp -implicitDefEqProofs only [go_sem, seval, f1, f3, f4, f62, f91, f93, f95, f96, f98, f99, hq]
           exact Rt.mv0 (BaseR.refl hob) (by simp) (vS)
        ·rw [if_pos f96] at h
         cases f101 : ((List.length a0.Args : Int) == 0)
         ·rw [if_neg (nF f101)] at h
          obtain ⟨x42, f102, h⟩ := bindE h
          simp -implicitDefEqProofs only [go_sem, seval, f1, f3, f4, f62, f91, f93, f95, f96, f101, hq]
          refine callV_eq (portolanref04_has_ok γ _  f102) rfl rfl ?_
          simp -implicitDefEqProofs only [go_sem, seval, f1, f3, f4, f62, f91, f93, f95, f96, f101, hq]
          obtain rfl := sI h
          refine X_ret ?_
          simp -implicitDefEqProofs only [go_sem, seval, f1, f3, f4, f62, f91, f93, f95, f96, f101, hq]
          exact Rt.mv0 (BaseR.refl hob) (by simp) (vS)
         ·rw [if_pos f101] at h
          simp -implicitDefEqProofs only [go_sem, seval, f1, f3, f4, f62, f91, f93, f95, f96, f101, hq]
          obtain rfl := sI h
          refine X_ret ?_
          simp -implicitDefEqProofs only [go_sem, seval, f1, f3, f4, f62, f91, f93, f95, f96, f101, hq]
          exact Rt.mv0 (BaseR.refl hob) (by simp) (vS)
      ·rw [if_pos f93] at h
       cases f103 : (a0.M == 0)
       ·rw [if_neg (nF f103)] at h
        obtain ⟨x43, f104, h⟩ := bindE h
        simp -implicitDefEqProofs only [go_sem, seval, f1, f3, f4, f62, f91, f93, f103, hq]
        refine callV_eq (portolanref04_has_ok γ _  f104) rfl rfl ?_
        cases f105 : x43
        ·rw [if_neg (nF f105)] at h
         simp -implicitDefEqProofs only [go_sem, seval, f1, f3, f4, f62, f91, f93, f103, f105, hq]
         obtain rfl := sI h
         refine X_ret ?_
         simp -implicitDefEqProofs only [go_sem, seval, f1, f3, f4, f62, f91, f93, f103, f105, hq]
         exact Rt.mv0 (BaseR.refl hob) (by simp) (vS)
        ·rw [if_pos f105] at h
         cases f106 : ((List.length a0.Args : Int) == 0)
         ·rw [if_neg (nF f106)] at h
          obtain ⟨x44, f107, h⟩ := bindE h
          simp -implicitDefEqProofs only [go_sem, seval, f1, f3, f4, f62, f91, f93, f103, f105, f106, hq]
          refine callV_eq (portolanref04_has_ok γ _  f107) rfl rfl ?_
          simp -implicitDefEqProofs only [go_sem, seval, f1, f3, f4, f62, f91, f93, f103, f105, f106, hq]
          obtain rfl := sI h
          refine X_ret ?_
          simp -implicitDefEqProofs only [go_sem, seval, f1, f3, f4, f62, f91, f93, f103, f105, f106, hq]
          exact Rt.mv0 (BaseR.refl hob) (by simp) (vS)
         ·rw [if_pos f106] at h
          simp -implicitDefEqProofs only [go_sem, seval, f1, f3, f4, f62, f91, f93, f103, f105, f106, hq]
          obtain rfl := sI h
          refine X_ret ?_
          simp -implicitDefEqProofs only [go_sem, seval, f1, f3, f4, f62, f91, f93, f103, f105, f106, hq]
          exact Rt.mv0 (BaseR.refl hob) (by simp) (vS)
       ·rw [if_pos f103] at h
        cases f108 : ((List.length a0.Args : Int) == 0)
        ·rw [if_neg (nF f108)] at h
         obtain ⟨x45, f109, h⟩ := bindE h
         simp -implicitDefEqProofs only [go_sem, seval, f1, f3, f4, f62, f91, f93, f103, f108, hq]
         refine callV_eq (portolanref04_has_ok γ _  f109) rfl rfl ?_
         simp -implicitDefEqProofs only [go_sem, seval, f1, f3, f4, f62, f91, f93, f103, f108, hq]
         obtain rfl := sI h
         refine X_ret ?_
         simp -implicitDefEqProofs only [go_sem, seval, f1, f3, f4, f62, f91, f93, f103, f108, hq]
         exact Rt.mv0 (BaseR.refl hob) (by simp) (vS)
        ·rw [if_pos f108] at h
         simp -implicitDefEqProofs only [go_sem, seval, f1, f3, f4, f62, f91, f93, f103, f108, hq]
         obtain rfl := sI h
         refine X_ret ?_
         simp -implicitDefEqProofs only [go_sem, seval, f1, f3, f4, f62, f91, f93, f103, f108, hq]
         exact Rt.mv0 (BaseR.refl hob) (by simp) (vS)
     ·rw [if_pos f91] at h
      cases f110 : (a0.M == 0)
      ·rw [if_neg (nF f110)] at h
       obtain ⟨x46, f111, h⟩ := bindE h
       simp -implicitDefEqProofs only [go_sem, seval, f1, f3, f4, f62, f91, f110, hq]
       refine callV_eq (portolanref04_has_ok γ _  f111) rfl rfl ?_
       cases f112 : x46
       ·rw [if_neg (nF f112)] at h
        simp -implicitDefEqProofs only [go_sem, seval, f1, f3, f4, f62, f91, f110, f112, hq]
        obtain rfl := sI h
        refine X_ret ?_
        simp -implicitDefEqProofs only [go_sem, seval, f1, f3, f4, f62, f91, f110, f112, hq]
        exact Rt.mv0 (BaseR.refl hob) (by simp) (vS)
       ·rw [if_pos f112] at h
        cases f113 : ((List.length a0.Args : Int) == 0)
        ·rw [if_neg (nF f113)] at h
         obtain ⟨x47, f114, h⟩ := bindE h
         simp -implicitDefEqProofs only [go_sem, seval, f1, f3, f4, f62, f91, f110, f112, f113, hq]
         refine callV_eq (portolanref04_has_ok γ _  f114) rfl rfl ?_
         simp -implicitDefEqProofs only [go_sem, seval, f1, f3, f4, f62, f91, f110, f112, f113, hq]
         obtain rfl := sI h
         refine X_ret ?_
         simp -implicitDefEqProofs only [go_sem, seval, f1, f3, f4, f62, f91, f110, f112, f113, hq]
         exact Rt.mv0 (BaseR.refl hob) (by simp) (vS)
        ·rw [if_pos f113] at h
         simp -implicitDefEqProofs only [go_sem, seval, f1, f3, f4, f62, f91, f110, f112, f113, hq]
         obtain rfl := sI h
         refine X_ret ?_
         simp -implicitDefEqProofs only [go_sem, seval, f1, f3, f4, f62, f91, f110, f112, f113, hq]
         exact Rt.mv0 (BaseR.refl hob) (by simp) (vS)
      ·rw [if_pos f110] at h
       cases f115 : ((List.length a0.Args : Int) == 0)
       ·rw [if_neg (nF f115)] at h
        obtain ⟨x48, f116, h⟩ := bindE h
        simp -implicitDefEqProofs only [go_sem, seval, f1, f3, f4, f62, f91, f110, f115, hq]
        refine callV_eq (portolanref04_has_ok γ _  f116) rfl rfl ?_
        simp -implicitDefEqProofs only [go_sem, seval, f1, f3, f4, f62, f91, f110, f115, hq]
        obtain rfl := sI h
        refine X_ret ?_
        simp -implicitDefEqProofs only [go_sem, seval, f1, f3, f4, f62, f91, f110, f115, hq]
        exact Rt.mv0 (BaseR.refl hob) (by simp) (vS)
       ·rw [if_pos f115] at h
        simp -implicitDefEqProofs only [go_sem, seval, f1, f3, f4, f62, f91, f110, f115, hq]
        obtain rfl := sI h
        refine X_ret ?_
        simp -implicitDefEqProofs only [go_sem, seval, f1, f3, f4, f62, f91, f110, f115, hq]
        exact Rt.mv0 (BaseR.refl hob) (by simp) (vS)
 ·rw [if_pos f1] at h
  cases f117 : (a0.A == 0)
  ·rw [if_neg (nF f117)] at h
   obtain ⟨x49, f118, h⟩ := bindE h
   simp -implicitDefEqProofs only [go_sem, seval, f1, f117, hq]
   refine callV_eq (portolanref04_has_ok γ _  f118) rfl rfl ?_
   cases f119 : x49
   ·rw [if_neg (nF f119)] at h
    simp -implicitDefEqProofs only [go_sem, seval, f1, f117, f119, hq]
    obtain rfl := sI h
    refine X_ret ?_
    simp -implicitDefEqProofs only [go_sem, seval, f1, f117, f119, hq]
    exact Rt.mv0 (BaseR.refl hob) (by simp) (vS)
   ·rw [if_pos f119] at h
    cases f120 : (a0.B == 0)
    ·rw [if_neg (nF f120)] at h
     obtain ⟨x50, f121, h⟩ := bindE h
     simp -implicitDefEqProofs only [go_sem, seval, f1, f117, f119, f120, hq]
     refine callV_eq (portolanref04_has_ok γ _  f121) rfl rfl ?_
     cases f122 : x50
     ·rw [if_neg (nF f122)] at h
      simp -implicitDefEqProofs only [go_sem, seval, f1, f117, f119, f120, f122, hq]
      obtain rfl := sI h
      refine X_ret ?_
      simp -implicitDefEqProofs only [go_sem, seval, f1, f117, f119, f120, f122, hq]
      exact Rt.mv0 (BaseR.refl hob) (by simp) (vS)
     ·rw [if_pos f122] at h
      cases f123 : (a0.N == 0)
      ·rw [if_neg (nF f123)] at h
       obtain ⟨x51, f124, h⟩ := bindE h
       simp -implicitDefEqProofs only [go_sem, seval, f1, f117, f119, f120, f122, f123, hq]
       refine callV_eq (portolanref04_has_ok γ _  f124) rfl rfl ?_
       cases f125 : x51
       ·rw [if_neg (nF f125)] at h
        obtain ⟨x52, f126, h⟩ := bindE h
        simp -implicitDefEqProofs only [go_sem, seval, f1, f117, f119, f120, f122, f123, f125, hq]
        refine callV_eq (portolanref04_has_ok γ _  f126) rfl rfl ?_
        cases f127 : x52
        ·rw [if_neg (nF f127)] at h
         simp -implicitDefEqProofs only [go_sem, seval, f1, f117, f119, f120, f122, f123, f125, f127, hq]
         obtain rfl := sI h
         refine X_ret ?_
         simp -implicitDefEqProofs only [go_sem, seval, f1, f117, f119, f120, f122, f123, f125, f127, hq]
         exact Rt.mv0 (BaseR.refl hob) (by simp) (vS)
        ·rw [if_pos f127] at h
         cases f128 : (a0.M == 0)
         ·rw [if_neg (nF f128)] at h
          obtain ⟨x53, f129, h⟩ := bindE h
          simp -implicitDefEqProofs only [go_sem, seval, f1, f117, f119, f120, f122, f123, f125, f127, f128, hq]
          refine callV_eq (portolanref04_has_ok γ _  f129) rfl rfl ?_
          cases f130 : x53
          ·rw [if_neg (nF f130)] at h
           simp -implicitDefEqProofs only [go_sem, seval, f1, f117, f119, f120, f122, f123, f125, f127, f128, f130, hq]
           obtain rfl := sI h
           refine X_ret ?_
           simp -implicitDefEqProofs only [go_sem, seval, f1, f117, f119, f120, f122, f123, f125, f127, f128, f130, hq]
           exact Rt.mv0 (BaseR.refl hob) (by simp) (vS)
          ·rw [if_pos f130] at h
           cases f131 : ((List.length a0.Args : Int) == 0)
           ·rw [if_neg (nF f131)] at h
            obtain ⟨x54, f132, h⟩ := bindE h
            simp -implicitDefEqProofs only [go_sem, seval, f1, f117, f119, f120, f122, f123, f125, f127, f128, f130, f131, hq]
            refine callV_eq (portolanref04_has_ok γ _  f132) rfl rfl ?_
            simp -implicitDefEqProofs only [go_sem, seval, f1, f117, f119, f120, f122, f123, f125, f127, f128, f130, f131, hq]
            obtain rfl := sI h
            refine X_ret ?_
            simp -implicitDefEqProofs only [go_sem, seval, f1, f117, f119, f120, f122, f123, f125, f127, f128, f130, f131, hq]
            exact Rt.mv0 (BaseR.refl hob) (by simp) (vS)
           ·rw [if_pos f131] at h
            simp -implicitDefEqProofs only [go_sem, seval, f1, f117, f119, f120, f122, f123, f125, f127, f128, f130, f131, hq]
            obtain rfl := sI h
            refine X_ret ?_
            simp -implicitDefEqProofs only [go_sem, seval, f1, f117, f119, f120, f122, f123, f125, f127, f128, f130, f131, hq]
            exact Rt.mv0 (BaseR.refl hob) (by simp) (vS)
         ·rw [if_pos f128] at h
          cases f133 : ((List.length a0.Args : Int) == 0)
          ·rw [if_neg (nF f133)] at h
           obtain ⟨x55, f134, h⟩ := bindE h
           simp -implicitDefEqProofs only [go_sem, seval, f1, f117, f119, f120, f122, f123, f125, f127, f128, f133, hq]
           refine callV_eq (portolanref04_has_ok γ _  f134) rfl rfl ?_
           simp -implicitDefEqProofs only [go_sem, seval, f1, f117, f119, f120, f122, f123, f125, f127, f128, f133, hq]
           obtain rfl := sI h
           refine X_ret ?_
           simp -implicitDefEqProofs only [go_sem, seval, f1, f117, f119, f120, f122, f123, f125, f127, f128, f133, hq]
           exact Rt.mv0 (BaseR.refl hob) (by simp) (vS)
          ·rw [if_pos f133] at h
           simp -implicitDefEqProofs only [go_sem, seval, f1, f117, f119, f120, f122, f123, f125, f127, f128, f133, hq]
           obtain rfl := sI h
           refine X_ret ?_
           simp -implicitDefEqProofs only [go_sem, seval, f1, f117, f119, f120, f122, f123, f125, f127, f128, f133, hq]
           exact Rt.mv0 (BaseR.refl hob) (by simp) (vS)
       ·rw [if_pos f125] at h
        cases f135 : (a0.M == 0)
        ·rw [if_neg (nF f135)] at h
         obtain ⟨x56, f136, h⟩ := bindE h
         simp -implicitDefEqProofs only [go_sem, seval, f1, f117, f119, f120, f122, f123, f125, f135, hq]
         refine callV_eq (portolanref04_has_ok γ _  f136) rfl rfl ?_
         cases f137 : x56
         ·rw [if_neg (nF f137)] at h
          simp -implicitDefEqProofs only [go_sem, seval, f1, f117, f119, f120, f122, f123, f125, f135, f137, hq]
          obtain rfl := sI h
          refine X_ret ?_
          simp -implicitDefEqProofs only [go_sem, seval, f1, f117, f119, f120, f122, f123, f125, f135, f137, hq]
          exact Rt.mv0 (BaseR.refl hob) (by simp) (vS)
         ·rw [if_pos f137] at h
          cases f138 : ((List.length a0.Args : Int) == 0)
          ·rw [if_neg (nF f138)] at h
           obtain ⟨x57, f139, h⟩ := bindE h
           simp -implicitDefEqProofs only [go_sem, seval, f1, f117, f119, f120, f122, f123, f125, f135, f137, f138, hq]
           refine callV_eq (portolanref04_has_ok γ _  f139) rfl rfl ?_
           simp -implicitDefEqProofs only [go_sem, seval, f1, f117, f119, f120, f122, f123, f125, f135, f137, f138, hq]
           obtain rfl := sI h
           refine X_ret ?_
           simp -implicitDefEqProofs only [go_sem, seval, f1, f117, f119, f120, f122, f123, f125, f135, f137, f138, hq]
           exact Rt.mv0 (BaseR.refl hob) (by simp) (vS)
          ·rw [if_pos f138] at h
           simp -implicitDefEqProofs only [go_sem, seval, f1, f117, f119, f120, f122, f123, f125, f135, f137, f138, hq]
           obtain rfl := sI h
           refine X_ret ?_
           simp -implicitDefEqProofs only [go_sem, seval, f1, f117, f119, f120, f122, f123, f125, f135, f137, f138, hq]
           exact Rt.mv0 (BaseR.refl hob) (by simp) (vS)
        ·rw [if_pos f135] at h
         cases f140 : ((List.length a0.Args : Int) == 0)
         ·rw [if_neg (nF f140)] at h
          obtain ⟨x58, f141, h⟩ := bindE h
          simp -implicitDefEqProofs only [go_sem, seval, f1, f117, f119, f120, f122, f123, f125, f135, f140, hq]
          refine callV_eq (portolanref04_has_ok γ _  f141) rfl rfl ?_
          simp -implicitDefEqProofs only [go_sem, seval, f1, f117, f119, f120, f122, f123, f125, f135, f140, hq]
          obtain rfl := sI h
          refine X_ret ?_
          simp -implicitDefEqProofs only [go_sem, seval, f1, f117, f119, f120, f122, f123, f125, f135, f140, hq]
          exact Rt.mv0 (BaseR.refl hob) (by simp) (vS)
         ·rw [if_pos f140] at h
          simp -implicitDefEqProofs only [go_sem, seval, f1, f117, f119, f120, f122, f123, f125, f135, f140, hq]
          obtain rfl := sI h
          refine X_ret ?_
          simp -implicitDefEqProofs only [go_sem, seval, f1, f117, f119, f120, f122, f123, f125, f135, f140, hq]
          exact Rt.mv0 (BaseR.refl hob) (by simp) (vS)
      ·rw [if_pos f123] at h
       cases f142 : (a0.M == 0)
       ·rw [if_neg (nF f142)] at h
        obtain ⟨x59, f143, h⟩ := bindE h
        simp -implicitDefEqProofs only [go_sem, seval, f1, f117, f119, f120, f122, f123, f142, hq]
        refine callV_eq (portolanref04_has_ok γ _  f143) rfl rfl ?_
        cases f144 : x59
        ·rw [if_neg (nF f144)] at h
         simp -implicitDefEqProofs only [go_sem, seval, f1, f117, f119, f120, f122, f123, f142, f144, hq]
         obtain rfl := sI h
         refine X_ret ?_
         simp -implicitDefEqProofs only [go_sem, seval, f1, f117, f119, f120, f122, f123, f142, f144, hq]
         exact Rt.mv0 (BaseR.refl hob) (by simp) (vS)
        ·rw [if_pos f144] at h
         cases f145 : ((List.length a0.Args : Int) == 0)
         ·rw [if_neg (nF f145)] at h
          obtain ⟨x60, f146, h⟩ := bindE h
          simp -implicitDefEqProofs only [go_sem, seval, f1, f117, f119, f120, f122, f123, f142, f144, f145, hq]
          refine callV_eq (portolanref04_has_ok γ _  f146) rfl rfl ?_
          simp -implicitDefEqProofs only [go_sem, seval, f1, f117, f119, f120, f122, f123, f142, f144, f145, hq]
          obtain rfl := sI h
          refine X_ret ?_
          simp -implicitDefEqProofs only [go_sem, seval, f1, f117, f119, f120, f122, f123, f142, f144, f145, hq]
          exact Rt.mv0 (BaseR.refl hob) (by simp) (vS)
         ·rw [if_pos f145] at h
          simp -implicitDefEqProofs only [go_sem, seval, f1, f117, f119, f120, f122, f123, f142, f144, f145, hq]
          obtain rfl := sI h
          refine X_ret ?_
          simp -implicitDefEqProofs only [go_sem, seval, f1, f117, f119, f120, f122, f123, f142, f144, f145, hq]
          exact Rt.mv0 (BaseR.refl hob) (by simp) (vS)
       ·rw [if_pos f142] at h
        cases f147 : ((List.length a0.Args : Int) == 0)
        ·rw [if_neg (nF f147)] at h
         obtain ⟨x61, f148, h⟩ := bindE h
         simp -implicitDefEqProofs only [go_sem, seval, f1, f117, f119, f120, f122, f123, f142, f147, hq]
         refine callV_eq (portolanref04_has_ok γ _  f148) rfl rfl ?_
         simp -implicitDefEqProofs only [go_sem, seval, f1, f117, f119, f120, f122, f123, f142, f147, hq]
         obtain rfl := sI h
         refine X_ret ?_
         simp -implicitDefEqProofs only [go_sem, seval, f1, f117, f119, f120, f122, f123, f142, f147, hq]
         exact Rt.mv0 (BaseR.refl hob) (by simp) (vS)
        ·rw [if_pos f147] at h
         simp -implicitDefEqProofs only [go_sem, seval, f1, f117, f119, f120, f122, f123, f142, f147, hq]
         obtain rfl := sI h
         refine X_ret ?_
         simp -implicitDefEqProofs only [go_sem, seval, f1, f117, f119, f120, f122, f123, f142, f147, hq]
         exact Rt.mv0 (BaseR.refl hob) (by simp) (vS)
    ·rw [if_pos f120] at h
     cases f149 : (a0.N == 0)
     ·rw [if_neg (nF f149)] at h
      obtain ⟨x62, f150, h⟩ := bindE h
      simp -implicitDefEqProofs only [go_sem, seval, f1, f117, f119, f120, f149, hq]
      refine callV_eq (portolanref04_has_ok γ _  f150) rfl rfl ?_
      cases f151 : x62
      ·rw [if_neg (nF f151)] at h
       obtain ⟨x63, f152, h⟩ := bindE h
       simp -implicitDefEqProofs only [go_sem, seval, f1, f117, f119, f120, f149, f151, hq]
       refine callV_eq (portolanref04_has_ok γ _  f152) rfl rfl ?_
       cases f153 : x63
       ·rw [if_neg (nF f153)] at h
        simp -implicitDefEqProofs only [go_sem, seval, f1, f117, f119, f120, f149, f151, f153, hq]
        obtain rfl := sI h
        refine X_ret ?_
        simp -implicitDefEqProofs only [go_sem, seval, f1, f117, f119, f120, f149, f151, f153, hq]
        exact Rt.mv0 (BaseR.refl hob) (by simp) (vS)
       ·rw [if_pos f153] at h
        cases f154 : (a0.M == 0)
        ·rw [if_neg (nF f154)] at h
         obtain ⟨x64, f155, h⟩ := bindE h
         simp -implicitDefEqProofs only [go_sem, seval, f1, f117, f119, f120, f149, f151, f153, f154, hq]
         refine callV_eq (portolanref04_has_ok γ _  f155) rfl rfl ?_
         cases f156 : x64
         ·rw [if_neg (nF f156)] at h
          simp -implicitDefEqProofs only [go_sem, seval, f1, f117, f119, f120, f149, f151, f153, f154, f156, hq]
          obtain rfl := sI h
          refine X_ret ?_
          simp -implicitDefEqProofs only [go_sem, seval, f1, f117, f119, f120, f149, f151, f153, f154, f156, hq]
          exact Rt.mv0 (BaseR.refl hob) (by simp) (vS)
         ·rw [if_pos f156] at h
          cases f157 : ((List.length a0.Args : Int) == 0)
          ·rw [if_neg (nF f157)] at h
           obtain ⟨x65, f158, h⟩ := bindE h
           simp -implicitDefEqProofs only [go_sem, seval, f1, f117, f119, f120, f149, f151, f153, f154, f156, f157, hq]
           refine callV_eq (portolanref04_has_ok γ _  f158) rfl rfl ?_
           simp -implicitDefEqProofs only [go_sem, seval, f1, f117, f119, f120, f149, f151, f153, f154, f156, f157, hq]
           obtain rfl := sI h
           refine X_ret ?_
           simp -implicitDefEqProofs only [go_sem, seval, f1, f117, f119, f120, f149, f151, f153, f154, f156, f157, hq]
           exact Rt.mv0 (BaseR.refl hob) (by simp) (vS)
          ·rw [if_pos f157] at h
           simp -implicitDefEqProofs only [go_sem, seval, f1, f117, f119, f120, f149, f151, f153, f154, f156, f157, hq]
           obtain rfl := sI h
           refine X_ret ?_
           simp -implicitDefEqProofs only [go_sem, seval, f1, f117, f119, f120, f149, f151, f153, f154, f156, f157, hq]
           exact Rt.mv0 (BaseR.refl hob) (by simp) (vS)
        ·rw [if_pos f154] at h
         cases f159 : ((List.length a0.Args : Int) == 0)
         ·rw [if_neg (nF f159)] at h
          obtain ⟨x66, f160, h⟩ := bindE h
          simp -implicitDefEqProofs only [go_sem, seval, f1, f117, f119, f120, f149, f151, f153, f154, f159, hq]
          refine callV_eq (portolanref04_has_ok γ _  f160) rfl rfl ?_
          simp -implicitDefEqProofs only [go_sem, seval, f1, f117, f119, f120, f149, f151, f153, f154, f159, hq]
          obtain rfl := sI h
          refine X_ret ?_
          simp -implicitDefEqProofs only [go_sem, seval, f1, f117, f119, f120, f149, f151, f153, f154, f159, hq]
          exact Rt.mv0 (BaseR.refl hob) (by simp) (vS)
         ·rw [if_pos f159] at h
          simp -implicitDefEqProofs only [go_sem, seval, f1, f117, f119, f120, f149, f151, f153, f154, f159, hq]
          obtain rfl := sI h
          refine X_ret ?_
          simp -implicitDefEqProofs only [go_sem, seval, f1, f117, f119, f120, f149, f151, f153, f154, f159, hq]
          exact Rt.mv0 (BaseR.refl hob) (by simp) (vS)
      ·rw [if_pos f151] at h
       cases f161 : (a0.M == 0)
       ·rw [if_neg (nF f161)] at h
        obtain ⟨x67, f162, h⟩ := bindE h
        simp -implicitDefEqProofs only [go_sem, seval, f1, f117, f119, f120, f149, f151, f161, hq]
        refine callV_eq (portolanref04_has_ok γ _  f162) rfl rfl ?_
        cases f163 : x67
        ·rw [if_neg (nF f163)] at h
         simp -implicitDefEqProofs only [go_sem, seval, f1, f117, f119, f120, f149, f151, f161, f163, hq]
         obtain rfl := sI h
         refine X_ret ?_
         simp -implicitDefEqProofs only [go_sem, seval, f1, f117, f119, f120, f149, f151, f161, f163, hq]
         exact Rt.mv0 (BaseR.refl hob) (by simp) (vS)
        ·rw [if_pos f163] at h
         cases f164 : ((List.length a0.Args : Int) == 0)
         ·rw [if_neg (nF f164)] at h
          obtain ⟨x68, f165, h⟩ := bindE h
          simp -implicitDefEqProofs only [go_sem, seval, f1, f117, f119, f120, f149, f151, f161, f163, f164, hq]
          refine callV_eq (portolanref04_has_ok γ _  f165) rfl rfl ?_
          simp -implicitDefEqProofs only [go_sem, seval, f1, f117, f119, f120, f149, f151, f161, f163, f164, hq]
          obtain rfl := sI h
          refine X_ret ?_
          simp -implicitDefEqProofs only [go_sem, seval, f1, f117, f119, f120, f149, f151, f161, f163, f164, hq]
          exact Rt.mv0 (BaseR.refl hob) (by simp) (vS)
         ·rw [if_pos f164] at h
          simp -implicitDefEqProofs only [go_sem, seval, f1, f117, f119, f120, f149, f151, f161, f163, f164, hq]
          obtain rfl := sI h
          refine X_ret ?_
          simp -implicitDefEqProofs only [go_sem, seval, f1, f117, f119, f120, f149, f151, f161, f163, f164, hq]
          exact Rt.mv0 (BaseR.refl hob) (by simp) (vS)
       ·rw [if_pos f161] at h
        cases f166 : ((List.length a0.Args : Int) == 0)
        ·rw [if_neg (nF f166)] at h
         obtain ⟨x69, f167, h⟩ := bindE h
         simp -implicitDefEqProofs only [go_sem, seval, f1, f117, f119, f120, f149, f151, f161, f166, hq]
         refine callV_eq (portolanref04_has_ok γ _  f167) rfl rfl ?_
         simp -implicitDefEqProofs only [go_sem, seval, f1, f117, f119, f120, f149, f151, f161, f166, hq]
         obtain rfl := sI h
         refine X_ret ?_
         simp -implicitDefEqProofs only [go_sem, seval, f1, f117, f119, f120, f149, f151, f161, f166, hq]
         exact Rt.mv0 (BaseR.refl hob) (by simp) (vS)
        ·rw [if_pos f166] at h
         simp -implicitDefEqProofs only [go_sem, seval, f1, f117, f119, f120, f149, f151, f161, f166, hq]
         obtain rfl := sI h
         refine X_ret ?_
         simp -implicitDefEqProofs only [go_sem, seval, f1, f117, f119, f120, f149, f151, f161, f166, hq]
         exact Rt.mv0 (BaseR.refl hob) (by simp) (vS)
     ·rw [if_pos f149] at h
      cases f168 : (a0.M == 0)
      ·rw [if_neg (nF f168)] at h
       obtain ⟨x70, f169, h⟩ := bindE h
       simp -implicitDefEqProofs only [go_sem, seval, f1, f117, f119, f120, f149, f168, hq]
       refine callV_eq (portolanref04_has_ok γ _  f169) rfl rfl ?_
       cases f170 : x70
       ·rw [if_neg (nF f170)] at h
        simp -implicitDefEqProofs only [go_sem, seval, f1, f117, f119, f120, f149, f168, f170, hq]
        obtain rfl := sI h
        refine X_ret ?_
        simp -implicitDefEqProofs only [go_sem, seval, f1, f117, f119, f120, f149, f168, f170, hq]
        exact Rt.mv0 (BaseR.refl hob) (by simp) (vS)
       ·rw [if_pos f170] at h
        cases f171 : ((List.length a0.Args : Int) == 0)
        ·rw [if_neg (nF f171)] at h
         obtain ⟨x71, f172, h⟩ := bindE h
         simp -implicitDefEqProofs only [go_sem, seval, f1, f117, f119, f120, f149, f168, f170, f171, hq]
         refine callV_eq (portolanref04_has_ok γ _  f172) rfl rfl ?_
         simp -implicitDefEqProofs only [go_sem, seval, f1, f117, f119, f120, f149, f168, f170, f171, hq]
         obtain rfl := sI h
         refine X_ret ?_
         simp -implicitDefEqProofs only [go_sem, seval, f1, f117, f119, f120, f149, f168, f170, f171, hq]
         exact Rt.mv0 (BaseR.refl hob) (by simp) (vS)
        ·rw [if_pos f171] at h
         simp -implicitDefEqProofs only [go_sem, seval, f1, f117, f119, f120, f149, f168, f170, f171, hq]
         obtain rfl := sI h
         refine X_ret ?_
         simp -implicitDefEqProofs only [go_sem, seval, f1, f117, f119, f120, f149, f168, f170, f171, hq]
         exact Rt.mv0 (BaseR.refl hob) (by simp) (vS)
      ·rw [if_pos f168] at h
       cases f173 : ((List.length a0.Args : Int) == 0)
       ·rw [if_neg (nF f173)] at h
        obtain ⟨x72, f174, h⟩ := bindE h
        simp -implicitDefEqProofs only [go_sem, seval, f1, f117, f119, f120, f149, f168, f173, hq]
        refine callV_eq (portolanref04_has_ok γ _  f174) rfl rfl ?_
        simp -implicitDefEqProofs only [go_sem, seval, f1, f117, f119, f120, f149, f168, f173, hq]
        obtain rfl := sI h
        refine X_ret ?_
        simp -implicitDefEqProofs only [go_sem, seval, f1, f117, f119, f120, f149, f168, f173, hq]
        exact Rt.mv0 (BaseR.refl hob) (by simp) (vS)
       ·rw [if_pos f173] at h
        simp -implicitDefEqProofs only [go_sem, seval, f1, f117, f119, f120, f149, f168, f173, hq]
        obtain rfl := sI h
        refine X_ret ?_
        simp -implicitDefEqProofs only [go_sem, seval, f1, f117, f119, f120, f149, f168, f173, hq]
        exact Rt.mv0 (BaseR.refl hob) (by simp) (vS)
  ·rw [if_pos f117] at h
   cases f175 : (a0.B == 0)
   ·rw [if_neg (nF f175)] at h
    obtain ⟨x73, f176, h⟩ := bindE h
    simp -implicitDefEqProofs only [go_sem, seval, f1, f117, f175, hq]
    refine callV_eq (portolanref04_has_ok γ _  f176) rfl rfl ?_
    cases f177 : x73
    ·rw [if_neg (nF f177)] at h
     simp -implicitDefEqProofs only [go_sem, seval, f1, f117, f175, f177, hq]
     obtain rfl := sI h
     refine X_ret ?_
     simp -implicitDefEqProofs only [go_sem, seval, f1, f117, f175, f177, hq]
     exact Rt.mv0 (BaseR.refl hob) (by simp) (vS)
    ·rw [if_pos f177] at h
     cases f178 : (a0.N == 0)
     ·rw [if_neg (nF f178)] at h
      obtain ⟨x74, f179, h⟩ := bindE h
      simp -implicitDefEqProofs only [go_sem, seval, f1, f117, f175, f177, f178, hq]
      refine callV_eq (portolanref04_has_ok γ _  f179) rfl rfl ?_
      cases f180 : x74
      ·rw [if_neg (nF f180)] at h
       obtain ⟨x75, f181, h⟩ := bindE h
       simp -implicitDefEqProofs only [go_sem, seval, f1, f117, f175, f177, f178, f180, hq]
       refine callV_eq (portolanref04_has_ok γ _  f181) rfl rfl ?_
       cases f182 : x75
       ·rw [if_neg (nF f182)] at h
        simp -implicitDefEqProofs only [go_sem, seval, f1, f117, f175, f177, f178, f180, f182, hq]
        obtain rfl := sI h
        refine X_ret ?_
        simp -implicitDefEqProofs only [go_sem, seval, f1, f117, f175, f177, f178, f180, f182, hq]
        exact Rt.mv0 (BaseR.refl hob) (by simp) (vS)
       ·rw [if_pos f182] at h
        cases f183 : (a0.M == 0)
        ·rw [if_neg (nF f183)] at h
         obtain ⟨x76, f184, h⟩ := bindE h
         simp -implicitDefEqProofs only [go_sem, seval, f1, f117, f175, f177, f178, f180, f182, f183, hq]
         refine callV_eq (portolanref04_has_ok γ _  f184) rfl rfl ?_
         cases f185 : x76
         ·rw [if_neg (nF f185)] at h
          simp -implicitDefEqProofs only [go_sem, seval, f1, f117, f175, f177, f178, f180, f182, f183, f185, hq]
          obtain rfl := sI h
          refine X_ret ?_
          simp -implicitDefEqProofs only [go_sem, seval, f1, f117, f175, f177, f178, f180, f182, f183, f185, hq]
          exact Rt.mv0 (BaseR.refl hob) (by simp) (vS)
         ·rw [if_pos f185] at h
          cases f186 : ((List.length a0.Args : Int) == 0)
          ·rw [if_neg (nF f186)] at h
           obtain ⟨x77, f187, h⟩ := bindE h
           simp -implicitDefEqProofs only [go_sem, seval, f1, f117, f175, f177, f178, f180, f182, f183, f185, f186, hq]
           refine callV_eq (portolanref04_has_ok γ _  f187) rfl rfl ?_
           simp -implicitDefEqProofs only [go_sem, seval, f1, f117, f175, f177, f178, f180, f182, f183, f185, f186, hq]
           obtain rfl := sI h
           refine X_ret ?_
           simp -implicitDefEqProofs only [go_sem, seval, f1, f117, f175, f177, f178, f180, f182, f183, f185, f186, hq]
           exact Rt.mv0 (BaseR.refl hob) (by simp) (vS)
          ·rw [if_pos f186] at h
           simp -implicitDefEqProofs only [go_sem, seval, f1, f117, f175, f177, f178, f180, f182, f183, f185, f186, hq]
           obtain rfl := sI h
           refine X_ret ?_
           simp -implicitDefEqProofs only [go_sem, seval, f1, f117, f175, f177, f178, f180, f182, f183, f185, f186, hq]
           exact Rt.mv0 (BaseR.refl hob) (by simp) (vS)
        ·rw [if_pos f183] at h
         cases f188 : ((List.length a0.Args : Int) == 0)
         ·rw [if_neg (nF f188)] at h
          obtain ⟨x78, f189, h⟩ := bindE h
          simp -implicitDefEqProofs only [go_sem, seval, f1, f117, f175, f177, f178, f180, f182, f183, f188, hq]
          refine callV_eq (portolanref04_has_ok γ _  f189) rfl rfl ?_
          simp -implicitDefEqProofs only [go_sem, seval, f1, f117, f175, f177, f178, f180, f182, f183, f188, hq]
          obtain rfl := sI h
          refine X_ret ?_
          simp -implicitDefEqProofs only [go_sem, seval, f1, f117, f175, f177, f178, f180, f182, f183, f188, hq]
          exact Rt.mv0 (BaseR.refl hob) (by simp) (vS)
         ·rw [if_pos f188] at h
          simp -implicitDefEqProofs only [go_sem, seval, f1, f117, f175, f177, f178, f180, f182, f183, f188, hq]
          obtain rfl := sI h
          refine X_ret ?_
          simp -implicitDefEqProofs only [go_sem, seval, f1, f117, f175, f177, f178, f180, f182, f183, f188, hq]
          exact Rt.mv0 (BaseR.refl hob) (by simp) (vS)
      ·rw [if_pos f180] at h
       cases f190 : (a0.M == 0)
       ·rw [if_neg (nF f190)] at h
        obtain ⟨x79, f191, h⟩ := bindE h
        simp -implicitDefEqProofs only [go_sem, seval, f1, f117, f175, f177, f178, f180, f190, hq]
        refine callV_eq (portolanref04_has_ok γ _  f191) rfl rfl ?_
        cases f192 : x79
        ·rw [if_neg (nF f192)] at h
         simp -implicitDefEqProofs only [go_sem, seval, f1, f117, f175, f177, f178, f180, f190, f192, hq]
         obtain rfl := sI h
         refine X_ret ?_
         simp -implicitDefEqProofs only [go_sem, seval, f1, f117, f175, f177, f178, f180, f190, f192, hq]
         exact Rt.mv0 (BaseR.refl hob) (by simp) (vS)
        ·rw [if_pos f192] at h
         cases f193 : ((List.length a0.Args : Int) == 0)
         ·rw [if_neg (nF f193)] at h
          obtain ⟨x80, f194, h⟩ := bindE h
          simp -implicitDefEqProofs only [go_sem, seval, f1, f117, f175, f177, f178, f180, f190, f192, f193, hq]
          refine callV_eq (portolanref04_has_ok γ _  f194) rfl rfl ?_
          simp -implicitDefEqProofs only [go_sem, seval, f1, f117, f175, f177, f178, f180, f190, f192, f193, hq]
          obtain rfl := sI h
          refine X_ret ?_
          simp -implicitDefEqProofs only [go_sem, seval, f1, f117, f175, f177, f178, f180, f190, f192, f193, hq]
          exact Rt.mv0 (BaseR.refl hob) (by simp) (vS)
         ·rw [if_pos f193] at h
          simp -implicitDefEqProofs only [go_sem, seval, f1, f117, f175, f177, f178, f180, f190, f192, f193, hq]
          obtain rfl := sI h
          refine X_ret ?_
          simp -implicitDefEqProofs only [go_sem, seval, f1, f117, f175, f177, f178, f180, f190, f192, f193, hq]
          exact Rt.mv0 (BaseR.refl hob) (by simp) (vS)
       ·rw [if_pos f190] at h
        cases f195 : ((List.length a0.Args : Int) == 0)
        ·rw [if_neg (nF f195)] at h
         obtain ⟨x81, f196, h⟩ := bindE h
         simp -implicitDefEqProofs only [go_sem, seval, f1, f117, f175, f177, f178, f180, f190, f195, hq]
         refine callV_eq (portolanref04_has_ok γ _  f196) rfl rfl ?_
         simp -implicitDefEqProofs only [go_sem, seval, f1, f117, f175, f177, f178, f180, f190, f195, hq]
         obtain rfl := sI h
         refine X_ret ?_
         simp -implicitDefEqProofs only [go_sem, seval, f1, f117, f175, f177, f178, f180, f190, f195, hq]
         exact Rt.mv0 (BaseR.refl hob) (by simp) (vS)
        ·rw [if_pos f195] at h
         simp -implicitDefEqProofs only [go_sem, seval, f1, f117, f175, f177, f178, f180, f190, f195, hq]
         obtain rfl := sI h
         refine X_ret ?_
         simp -implicitDefEqProofs only [go_sem, seval, f1, f117, f175, f177, f178, f180, f190, f195, hq]
         exact Rt.mv0 (BaseR.refl hob) (by simp) (vS)
     ·rw [if_pos f178] at h
      cases f197 : (a0.M == 0)
      ·rw [if_neg (nF f197)] at h
       obtain ⟨x82, f198, h⟩ := bindE h
       simp -implicitDefEqProofs only [go_sem, seval, f1, f117, f175, f177, f178, f197, hq]
       refine callV_eq (portolanref04_has_ok γ _  f198) rfl rfl ?_
       cases f199 : x82
       ·rw [if_neg (nF f199)] at h
        simp -implicitDefEqProofs only [go_sem, seval, f1, f117, f175, f177, f178, f197, f199, hq]
        obtain rfl := sI h
        refine X_ret ?_
        simp -implicitDefEqProofs only [go_sem, seval, f1, f117, f175, f177, f178, f197, f199, hq]
        exact Rt.mv0 (BaseR.refl hob) (by simp) (vS)
       ·rw [if_pos f199] at h
        cases f200 : ((List.length a0.Args : Int) == 0)
        ·rw [if_neg (nF f200)] at h
         obtain ⟨x83, f201, h⟩ := bindE h
         simp -implicitDefEqProofs only [go_sem, seval, f1, f117, f175, f177, f178, f197, f199, f200, hq]
         refine callV_eq (portolanref04_has_ok γ _  f201) rfl rfl ?_
         simp -implicitDefEqProofs only [go_sem, seval, f1, f117, f175, f177, f178, f197, f199, f200, hq]
         obtain rfl := sI h
         refine X_ret ?_
         simp -implicitDefEqProofs only [go_sem, seval, f1, f117, f175, f177, f178, f197, f199, f200, hq]
         exact Rt.mv0 (BaseR.refl hob) (by simp) (vS)
        ·rw [if_pos f200] at h
         simp -implicitDefEqProofs only [go_sem, seval, f1, f117, f175, f177, f178, f197, f199, f200, hq]
         obtain rfl := sI h
         refine X_ret ?_
         simp -implicitDefEqProofs only [go_sem, seval, f1, f117, f175, f177, f178, f197, f199, f200, hq]
         exact Rt.mv0 (BaseR.refl hob) (by simp) (vS)
      ·rw [if_pos f197] at h
       cases f202 : ((List.length a0.Args : Int) == 0)
       ·rw [if_neg (nF f202)] at h
        obtain ⟨x84, f203, h⟩ := bindE h
        simp -implicitDefEqProofs only [go_sem, seval, f1, f117, f175, f177, f178, f197, f202, hq]
        refine callV_eq (portolanref04_has_ok γ _  f203) rfl rfl ?_
        simp -implicitDefEqProofs only [go_sem, seval, f1, f117, f175, f177, f178, f197, f202, hq]
        obtain rfl := sI h
        refine X_ret ?_
        simp -implicitDefEqProofs only [go_sem, seval, f1, f117, f175, f177, f178, f197, f202, hq]
        exact Rt.mv0 (BaseR.refl hob) (by simp) (vS)
       ·rw [if_pos f202] at h
        simp -implicitDefEqProofs only [go_sem, seval, f1, f117, f175, f177, f178, f197, f202, hq]
        obtain rfl := sI h
        refine X_ret ?_
        simp -implicitDefEqProofs only [go_sem, seval, f1, f117, f175, f177, f178, f197, f202, hq]
        exact Rt.mv0 (BaseR.refl hob) (by simp) (vS)
   ·rw [if_pos f175] at h
    cases f204 : (a0.N == 0)
    ·rw [if_neg (nF f204)] at h
     obtain ⟨x85, f205, h⟩ := bindE h
     simp -implicitDefEqProofs only [go_sem, seval, f1, f117, f175, f204, hq]
     refine callV_eq (portolanref04_has_ok γ _  f205) rfl rfl ?_
     cases f206 : x85
     ·rw [if_neg (nF f206)] at h
      obtain ⟨x86, f207, h⟩ := bindE h
      simp -implicitDefEqProofs only [go_sem, seval, f1, f117, f175, f204, f206, hq]
      refine callV_eq (portolanref04_has_ok γ _  f207) rfl rfl ?_
      cases f208 : x86
      ·rw [if_neg (nF f208)] at h
       simp -implicitDefEqProofs only [go_sem, seval, f1, f117, f175, f204, f206, f208, hq]
       obtain rfl := sI h
       refine X_ret ?_
       simp -implicitDefEqProofs only [go_sem, seval, f1, f117, f175, f204, f206, f208, hq]
       exact Rt.mv0 (BaseR.refl hob) (by simp) (vS)
      ·rw [if_pos f208] at h
       cases f209 : (a0.M == 0)
       ·rw [if_neg (nF f209)] at h
        obtain ⟨x87, f210, h⟩ := bindE h
        simp -implicitDefEqProofs only [go_sem, seval, f1, f117, f175, f204, f206, f208, f209, hq]
        refine callV_eq (portolanref04_has_ok γ _  f210) rfl rfl ?_
        cases f211 : x87
        ·rw [if_neg (nF f211)] at h
         simp -implicitDefEqProofs only [go_sem, seval, f1, f117, f175, f204, f206, f208, f209, f211, hq]
         obtain rfl := sI h
         refine X_ret ?_
         simp -implicitDefEqProofs only [go_sem, seval, f1, f117, f175, f204, f206, f208, f209, f211, hq]
         exact Rt.mv0 (BaseR.refl hob) (by simp) (vS)
        ·rw [if_pos f211] at h
         cases f212 : ((List.length a0.Args : Int) == 0)
         ·rw [if_neg (nF f212)] at h
          obtain ⟨x88, f213, h⟩ := bindE h
          simp -implicitDefEqProofs only [go_sem, seval, f1, f117, f175, f204, f206, f208, f209, f211, f212, hq]
          refine callV_eq (portolanref04_has_ok γ _  f213) rfl rfl ?_
          simp -implicitDefEqProofs only [go_sem, seval, f1, f117, f175, f204, f206, f208, f209, f211, f212, hq]
          obtain rfl := sI h
          refine X_ret ?_
          simp -implicitDefEqProofs only [go_sem, seval, f1, f117, f175, f204, f206, f208, f209, f211, f212, hq]
          exact Rt.mv0 (BaseR.refl hob) (by simp) (vS)
         ·rw [if_pos f212] at h
          simp -implicitDefEqProofs only [go_sem, seval, f1, f117, f175, f204, f206, f208, f209, f211, f212, hq]
          obtain rfl := sI h
          refine X_ret ?_
          simp -implicitDefEqProofs only [go_sem, seval, f1, f117, f175, f204, f206, f208, f209, f211, f212, hq]
          exact Rt.mv0 (BaseR.refl hob) (by simp) (vS)
       ·rw [if_pos f209] at h
        cases f214 : ((List.length a0.Args : Int) == 0)
        ·rw [if_neg (nF f214)] at h
         obtain ⟨x89, f215, h⟩ := bindE h
         simp -implicitDefEqProofs only [go_sem, seval, f1, f117, f175, f204, f206, f208, f209, f214, hq]
         refine callV_eq (portolanref04_has_ok γ _  f215) rfl rfl ?_
         simp -implicitDefEqProofs only [go_sem, seval, f1, f117, f175, f204, f206, f208, f209, f214, hq]
         obtain rfl := sI h
         refine X_ret ?_
         simp -implicitDefEqProofs only [go_sem, seval, f1, f117, f175, f204, f206, f208, f209, f214, hq]
         exact Rt.mv0 (BaseR.refl hob) (by simp) (vS)
        ·rw [if_pos f214] at h
         simp -implicitDefEqProofs only [go_sem, seval, f1, f117, f175, f204, f206, f208, f209, f214, hq]
         obtain rfl := sI h
         refine X_ret ?_
         simp -implicitDefEqProofs only [go_sem, seval, f1, f117, f175, f204, f206, f208, f209, f214, hq]
         exact Rt.mv0 (BaseR.refl hob) (by simp) (vS)
     ·rw [if_pos f206] at h
      cases f216 : (a0.M == 0)
      ·rw [if_neg (nF f216)] at h
       obtain ⟨x90, f217, h⟩ := bindE h
       simp -implicitDefEqProofs only [go_sem, seval, f1, f117, f175, f204, f206, f216, hq]
       refine callV_eq (portolanref04_has_ok γ _  f217) rfl rfl ?_
       cases f218 : x90
       ·rw [if_neg (nF f218)] at h
        simp -implicitDefEqProofs only [go_sem, seval, f1, f117, f175, f204, f206, f216, f218, hq]
        obtain rfl := sI h
        refine X_ret ?_
        simp -implicitDefEqProofs only [go_sem, seval, f1, f117, f175, f204, f206, f216, f218, hq]
        exact Rt.mv0 (BaseR.refl hob) (by simp) (vS)
       ·rw [if_pos f218] at h
        cases f219 : ((List.length a0.Args : Int) == 0)
        ·rw [if_neg (nF f219)] at h
         obtain ⟨x91, f220, h⟩ := bindE h
         simp -implicitDefEqProofs only [go_sem, seval, f1, f117, f175, f204, f206, f216, f218, f219, hq]
         refine callV_eq (portolanref04_has_ok γ _  f220) rfl rfl ?_
         simp -implicitDefEqProofs only [go_sem, seval, f1, f117, f175, f204, f206, f216, f218, f219, hq]
         obtain rfl := sI h
         refine X_ret ?_
         simp -implicitDefEqProofs only [go_sem, seval, f1, f117, f175, f204, f206, f216, f218, f219, hq]
         exact Rt.mv0 (BaseR.refl hob) (by simp) (vS)
        ·rw [if_pos f219] at h
         simp -implicitDefEqProofs only [go_sem, seval, f1, f117, f175, f204, f206, f216, f218, f219, hq]
         obtain rfl := sI h
         refine X_ret ?_
         simp -implicitDefEqProofs only [go_sem, seval, f1, f117, f175, f204, f206, f216, f218, f219, hq]
         exact Rt.mv0 (BaseR.refl hob) (by simp) (vS)
      ·rw [if_pos f216] at h
       cases f221 : ((List.length a0.Args : Int) == 0)
       ·rw [if_neg (nF f221)] at h
        obtain ⟨x92, f222, h⟩ := bindE h
        simp -implicitDefEqProofs only [go_sem, seval, f1, f117, f175, f204, f206, f216, f221, hq]
        refine callV_eq (portolanref04_has_ok γ _  f222) rfl rfl ?_
        simp -implicitDefEqProofs only [go_sem, seval, f1, f117, f175, f204, f206, f216, f221, hq]
        obtain rfl := sI h
        refine X_ret ?_
        simp -implicitDefEqProofs only [go_sem, seval, f1, f117, f175, f204, f206, f216, f221, hq]
        exact Rt.mv0 (BaseR.refl hob) (by simp) (vS)
       ·rw [if_pos f221] at h
        simp -implicitDefEqProofs only [go_sem, seval, f1, f117, f175, f204, f206, f216, f221, hq]
        obtain rfl := sI h
        refine X_ret ?_
        simp -implicitDefEqProofs only [go_sem, seval, f1, f117, f175, f204, f206, f216, f221, hq]
        exact Rt.mv0 (BaseR.refl hob) (by simp) (vS)
    ·rw [if_pos f204] at h
     cases f223 : (a0.M == 0)
     ·rw [if_neg (nF f223)] at h
      obtain ⟨x93, f224, h⟩ := bindE h
      simp -implicitDefEqProofs only [go_sem, seval, f1, f117, f175, f204, f223, hq]
      refine callV_eq (portolanref04_has_ok γ _  f224) rfl rfl ?_
      cases f225 : x93
      ·rw [if_neg (nF f225)] at h
       simp -implicitDefEqProofs only [go_sem, seval, f1, f117, f175, f204, f223, f225, hq]
       obtain rfl := sI h
       refine X_ret ?_
       simp -implicitDefEqProofs only [go_sem, seval, f1, f117, f175, f204, f223, f225, hq]
       exact Rt.mv0 (BaseR.refl hob) (by simp) (vS)
      ·rw [if_pos f225] at h
       cases f226 : ((List.length a0.Args : Int) == 0)
       ·rw [if_neg (nF f226)] at h
        obtain ⟨x94, f227, h⟩ := bindE h
        simp -implicitDefEqProofs only [go_sem, seval, f1, f117, f175, f204, f223, f225, f226, hq]
        refine callV_eq (portolanref04_has_ok γ _  f227) rfl rfl ?_
        simp -implicitDefEqProofs only [go_sem, seval, f1, f117, f175, f204, f223, f225, f226, hq]
        obtain rfl := sI h
        refine X_ret ?_
        simp -implicitDefEqProofs only [go_sem, seval, f1, f117, f175, f204, f223, f225, f226, hq]
        exact Rt.mv0 (BaseR.refl hob) (by simp) (vS)
       ·rw [if_pos f226] at h
        simp -implicitDefEqProofs only [go_sem, seval, f1, f117, f175, f204, f223, f225, f226, hq]
        obtain rfl := sI h
        refine X_ret ?_
        simp -implicitDefEqProofs only [go_sem, seval, f1, f117, f175, f204, f223, f225, f226, hq]
        exact Rt.mv0 (BaseR.refl hob) (by simp) (vS)
     ·rw [if_pos f223] at h
      cases f228 : ((List.length a0.Args : Int) == 0)
      ·rw [if_neg (nF f228)] at h
       obtain ⟨x95, f229, h⟩ := bindE h
       simp -implicitDefEqProofs only [go_sem, seval, f1, f117, f175, f204, f223, f228, hq]
       refine callV_eq (portolanref04_has_ok γ _  f229) rfl rfl ?_
       simp -implicitDefEqProofs only [go_sem, seval, f1, f117, f175, f204, f223, f228, hq]
       obtain rfl := sI h
       refine X_ret ?_
       simp -implicitDefEqProofs only [go_sem, seval, f1, f117, f175, f204, f223, f228, hq]
       exact Rt.mv0 (BaseR.refl hob) (by simp) (vS)
      ·rw [if_pos f228] at h
       simp -implicitDefEqProofs only [go_sem, seval, f1, f117, f175, f204, f223, f228, hq]
       obtain rfl := sI h
       refine X_ret ?_
       simp -implicitDefEqProofs only [go_sem, seval, f1, f117, f175, f204, f223, f228, hq]
       exact Rt.mv0 (BaseR.refl hob) (by simp) (vS)
end Go.Pf
end
section
set_option maxRecDepth 100000
namespace Go.Pf
open Go Go.Ab Go.Pp Go.Proofs Go.Proofs.S08
attribute [local go_sem] Lxτ Lxγ gam0 gam1 Int.toNat_natCast tau3 tau5 tau25 tau27 eI eB eS e_Ins e_Block e_Func e_Prog e_kind_state eL_Intu64
set_option maxHeartbeats 1000000 in
theorem portolanref04_Uses_ok (γ : GT) (ob : OT) {a0 : Ins} {v0_6 : V} (hv0_6 : rdK (getO ob) 1 v0_6 = some (List.map (eI .i64) a0.Args)) {r : List Int} (h : portolanref04_Uses a0 = some r) :
  Valid (Lx γ) 24 [V.agg [vint .i64 a0.Op, vint .i64 a0.D, vint .i64 a0.A, vint .i64 a0.B, vint .i64 a0.N, vint .i64 a0.M, v0_6]] ob (V.row ob.length 0 0 (List.length r)) (ob ++ [some (O.row 1 0 (List.map (eI .i64) r))]) := by
 refine valid_X (lx_ok γ) (fn := Tryd.f24) (rs := [.tmp 2]) Tryd.func24 (by kernel_rfl) rfl rfl Tryd.ntmps24 rfl (by simp) fun hb hob => ?_
 have hq := rd4 hv0_6
 rw [portolanref04_Uses] at h
 refine X_sr (lx_ok γ) ?_
 simp -implicitDefEqProofs only [go_sem, seval, hq]
 refine X_sr (lx_ok γ) ?_
 simp -implicitDefEqProofs only [go_sem, seval, hq]
 refine X_seq ?_
 refine X_jq (J := fun as1 ob1 => ∃ (x1 : List Int), portolanref04_Uses.j1 a0 x1 = some r ∧ [(1, V.ref ob.length 0), (3, V.row (ob.length + 1) 0 0 (List.length x1))] = as1 ∧ ob ++ [some (O.box [vint .i64 a0.Op, vint .i64 a0.D, vint .i64 a0.A, vint .i64 a0.B, vint .i64 a0.N, vint .i64 a0.M, v0_6]), some (O.row 1 0 (List.map (eI .i64) x1))] = ob1) ?_ ?_
 ·rintro as1 ob1 ⟨x1, h, rfl, rfl⟩
  rw [portolanref04_Uses.j1] at h
  simp -implicitDefEqProofs only [go_sem, seval, hq]
  refine X_seq ?_
  refine X_jq (J := fun as1 ob1 => ∃ (x2 : List Int), portolanref04_Uses.j2 a0 x2 = some r ∧ [(1, V.ref ob.length 0), (3, V.row (ob.length + 1) 0 0 (List.length x2))] = as1 ∧ ob ++ [some (O.box [vint .i64 a0.Op, vint .i64 a0.D, vint .i64 a0.A, vint .i64 a0.B, vint .i64 a0.N, vint .i64 a0.M, v0_6]), some (O.row 1 0 (List.map (eI .i64) x2))] = ob1) ?_ ?_
  ·rintro as1 ob1 ⟨x2, h, rfl, rfl⟩
   rw [portolanref04_Uses.j2] at h
   simp -implicitDefEqProofs only [go_sem, seval, hq]
   refine X_seq ?_
   refine X_sr (lx_ok γ) ?_
   obtain ⟨x3, f1, h⟩ := bindE h
   simp -implicitDefEqProofs only [go_sem, seval, hq]
   refine callV_eq (portolanref04_has_ok γ _  f1) rfl rfl ?_
   simp -implicitDefEqProofs only [go_sem, seval, hq]
   cases f2 : x3
   ·rw [if_neg (nF f2)] at h
    refine X_cond (lx_ok γ) ?_
    simp -implicitDefEqProofs only [go_sem, seval, f2, hq]
    refine X_skip ?_
    try simp -implicitDefEqProofs only [go_sem]
    refine X_sr (lx_ok γ) ?_
    simp -implicitDefEqProofs only [go_sem, seval, f2, hq]
    obtain rfl := sI h
    refine X_ret ?_
    simp -implicitDefEqProofs only [go_sem, seval, f2, hq]
    exact Rt.mv [(1, 0)] (BaseR.refl hob) (by simp) (by decide) (VM.rowL (j := 1) (t := 0) rfl (by first | rfl | omega | (simp [*]; done) | simp | simp_all)) ⟨⟨_, rfl, OM.row' (by first | rfl | simp_all)⟩, trivial⟩
   ·rw [if_pos f2] at h
    refine X_cond (lx_ok γ) ?_
    simp -implicitDefEqProofs only [go_sem, seval, f2, hq]
    refine X_reg (lx_ok γ) ?_
    obtain ⟨x4, f3, h⟩ := bindE h
    have f4 : List.length x4 * 8 ≤ 140737488355328 := by have := (appL_some f3).1; rw [(appL_some f3).2]; simpa using this
    have f5 : List.map (eI .i64) x2 ++ List.map (eI .i64) a0.Args = List.map (eI .i64) x4 := by rw [(appL_some f3).2]; simp [eB, eI, eS]
    have f6 : List.length x2 + List.length a0.Args = List.length x4 := by rw [(appL_some f3).2]; simp
    simp -implicitDefEqProofs only [go_sem, seval, f2, hq, f4, f5, f6]
    refine X_sr (lx_ok γ) ?_
    simp -implicitDefEqProofs only [go_sem, seval, f2, hq]
    obtain rfl := sI h
    refine X_ret ?_
    simp -implicitDefEqProofs only [go_sem, seval, f2, hq]
    exact Rt.mv [(1, 1)] (BaseR.refl hob) (by simp) (by decide) (VM.rowL (j := 1) (t := 0) rfl (by first | rfl | omega | (simp [*]; done) | simp | simp_all)) ⟨⟨_, rfl, OM.row' (by first | rfl | simp_all)⟩, trivial⟩
  ·refine X_sr (lx_ok γ) ?_
   obtain ⟨x5, f7, h⟩ := bindE h
   simp -implicitDefEqProofs only [go_sem, seval, hq]
   refine callV_eq (portolanref04_has_ok γ _  f7) rfl rfl ?_
   simp -implicitDefEqProofs only [go_sem, seval, hq]
   cases f8 : x5
   ·rw [if_neg (nF f8)] at h
    refine X_cond (lx_ok γ) ?_
    simp -implicitDefEqProofs only [go_sem, seval, f8, hq]
    refine X_skip ?_
    try simp -implicitDefEqProofs only [go_sem]
    refine kJ_in ?_ ⟨x1, h, rfl, rfl⟩
    exact To.mv [(0, 0), (1, 0)] (BaseR.refl hob) (by simp) (by decide) (by simp only [go_sem]; exact ⟨VM.refA (j := 0) (t := 0) rfl, VM.rowL (j := 1) (t := 1) rfl (by first | rfl | omega | (simp [*]; done) | simp | simp_all)⟩) ⟨⟨_, rfl, OM.box _ _ ⟨vS, vS, vS, vS, vS, vS, VM.self (by simpa using Bd.of_rdK hv0_6), trivial⟩⟩, ⟨_, rfl, OM.row' (by first | rfl | simp_all)⟩, trivial⟩
   ·rw [if_pos f8] at h
    refine X_cond (lx_ok γ) ?_
    simp -implicitDefEqProofs only [go_sem, seval, f8, hq]
    refine X_reg (lx_ok γ) ?_
    obtain ⟨x6, f9, h⟩ := bindE h
    have f10 : List.length x6 * 8 ≤ 140737488355328 := by have := (appL_some f9).1; rw [(appL_some f9).2]; simpa using this
    have f11 : List.map (eI .i64) x1 ++ [[.lit (.int .i64 a0.B)]] = List.map (eI .i64) x6 := by rw [(appL_some f9).2]; simp [eB, eI, eS]
    have f12 : List.length x1 + 1 = List.length x6 := by rw [(appL_some f9).2]; simp
    simp -implicitDefEqProofs only [go_sem, seval, f8, hq, f10, f11, f12]
    refine kJ_in ?_ ⟨x6, h, rfl, rfl⟩
    exact To.mv [(0, 0), (1, 1)] (BaseR.refl hob) (by simp) (by decide) (by simp only [go_sem]; exact ⟨VM.refA (j := 0) (t := 0) rfl, VM.rowL (j := 1) (t := 1) rfl (by first | rfl | omega | (simp [*]; done) | simp | simp_all)⟩) ⟨⟨_, rfl, OM.box _ _ ⟨vS, vS, vS, vS, vS, vS, VM.self (by simpa using Bd.of_rdK hv0_6), trivial⟩⟩, ⟨_, rfl, OM.row' (by first | rfl | simp_all)⟩, trivial⟩
 ·refine X_sr (lx_ok γ) ?_
  obtain ⟨x7, f13, h⟩ := bindE h
  simp -implicitDefEqProofs only [go_sem, seval, hq]
  refine callV_eq (portolanref04_has_ok γ _  f13) rfl rfl ?_
  simp -implicitDefEqProofs only [go_sem, seval, hq]
  cases f14 : x7
  ·rw [if_neg (nF f14)] at h
   refine X_cond (lx_ok γ) ?_
   simp -implicitDefEqProofs only [go_sem, seval, f14, hq]
   refine X_skip ?_
   try simp -implicitDefEqProofs only [go_sem]
   refine kJ_in ?_ ⟨[], h, rfl, rfl⟩
   exact To.trans (To.gh (as' := [(1, _), (3, V.row (ob.length + 1) 0 0 0)]) (l' := [some (O.box [_, _, _, _, _, _, _])]) 1 ⟨VG.refl _ _ _, VG.nilL, trivial⟩ ⟨Or.inl rfl, trivial⟩) (To.mv [(0, 0), (1, 0)] (BaseR.refl hob) (by simp) (by decide) (by simp only [go_sem]; exact ⟨VM.refA (j := 0) (t := 0) rfl, VM.rowL (j := 1) (t := 1) rfl (by simp)⟩) ⟨⟨_, rfl, OM.box _ _ ⟨vS, vS, vS, vS, vS, vS, VM.self (by simpa using Bd.of_rdK hv0_6), trivial⟩⟩, ⟨_, rfl, OM.row' rfl⟩, trivial⟩)
  ·rw [if_pos f14] at h
   refine X_cond (lx_ok γ) ?_
   simp -implicitDefEqProofs only [go_sem, seval, f14, hq]
   refine X_reg (lx_ok γ) ?_
   simp -implicitDefEqProofs only [go_sem, seval, f14, hq]
   refine kJ_in ?_ ⟨[a0.A], h, rfl, rfl⟩
   exact To.mv [(0, 0), (2, 0)] (BaseR.refl hob) (by simp) (by decide) (by simp only [go_sem]; exact ⟨VM.refA (j := 0) (t := 0) rfl, VM.rowL (j := 2) (t := 1) rfl (by first | rfl | omega | (simp [*]; done) | simp | simp_all)⟩) ⟨⟨_, rfl, OM.box _ _ ⟨vS, vS, vS, vS, vS, vS, VM.self (by simpa using Bd.of_rdK hv0_6), trivial⟩⟩, ⟨_, rfl, OM.row' (by first | rfl | simp_all)⟩, trivial⟩
end Go.Pf
end
section
set_option maxRecDepth 100000
namespace Go.Pf
open Go Go.Ab Go.Pp Go.Proofs Go.Proofs.S08
attribute [local go_sem] Lxτ Lxγ gam0 gam1 Int.toNat_natCast tau3 tau25 tau27 eI eB eS e_Ins e_Block e_Func e_Prog e_kind_state eL_Intu64
set_option maxHeartbeats 1000000 in
theorem portolanref04_Next_ok (γ : GT) (ob : OT) {a0 : Ins} {v0_6 : V} (hv0_6 : rdK (getO ob) 1 v0_6 = some (List.map (eI .i64) a0.Args)) {r : List Int} (h : portolanref04_Next a0 = some r) :
  Valid (Lx γ) 25 [V.agg [vint .i64 a0.Op, vint .i64 a0.D, vint .i64 a0.A, vint .i64 a0.B, vint .i64 a0.N, vint .i64 a0.M, v0_6]] ob (V.row ob.length 0 0 (List.length r)) (ob ++ [some (O.row 1 0 (List.map (eI .i64) r))]) := by
 refine valid_X (lx_ok γ) (fn := Tryd.f25) (rs := [.tmp 2]) Tryd.func25 (by kernel_rfl) rfl rfl Tryd.ntmps25 rfl (by simp) fun hb hob => ?_
 have hq := rd4 hv0_6
 rw [portolanref04_Next] at h
 refine X_sr (lx_ok γ) ?_
 simp -implicitDefEqProofs only [go_sem, seval, hq]
 refine X_seq ?_
 refine X_sr (lx_ok γ) ?_
 simp -implicitDefEqProofs only [go_sem, seval, hq]
 refine X_block ?_
 refine X_sr (lx_ok γ) ?_
 simp -implicitDefEqProofs only [go_sem, seval, hq]
 cases f1 : (a0.Op == 21)
 ·rw [if_neg (nF f1)] at h
  refine X_cond (lx_ok γ) ?_
  simp -implicitDefEqProofs only [go_sem, seval, f1, hq]
  refine X_sr (lx_ok γ) ?_
  simp -implicitDefEqProofs only [go_sem, seval, f1, hq]
  cases f2 : (a0.Op == 22)
  ·rw [if_neg (nF f2)] at h
   refine X_cond (lx_ok γ) ?_
   simp -implicitDefEqProofs only [go_sem, seval, f1, f2, hq]
   refine X_skip ?_
   try simp -implicitDefEqProofs only [go_sem]
   refine X_sr (lx_ok γ) ?_
   simp -implicitDefEqProofs only [go_sem, seval, f1, f2, hq]
   obtain rfl := sI h
   refine X_ret ?_
   simp -implicitDefEqProofs only [go_sem, seval, f1, f2, hq]
   exact Rt.trans (Rt.mv0 (BaseR.refl hob) (by simp) (vS)) Rt.nilRow
  ·rw [if_pos f2] at h
   refine X_cond (lx_ok γ) ?_
   simp -implicitDefEqProofs only [go_sem, seval, f1, f2, hq]
   refine X_seq ?_
   refine X_sr (lx_ok γ) ?_
   simp -implicitDefEqProofs only [go_sem, seval, f1, f2, hq]
   cases f3 : (a0.N == a0.M)
   ·rw [if_neg (nF f3)] at h
    refine X_cond (lx_ok γ) ?_
    simp -implicitDefEqProofs only [go_sem, seval, f1, f2, f3, hq]
    refine X_skip ?_
    try simp -implicitDefEqProofs only [go_sem]
    refine X_sr (lx_ok γ) ?_
    simp -implicitDefEqProofs only [go_sem, seval, f1, f2, f3, hq]
    obtain rfl := sI h
    refine X_ret ?_
    simp -implicitDefEqProofs only [go_sem, seval, f1, f2, f3, hq]
    exact Rt.mv [(1, 0)] (BaseR.refl hob) (by simp) (by decide) (VM.rowL (j := 1) (t := 0) rfl (by first | rfl | omega | (simp [*]; done) | simp | simp_all)) ⟨⟨_, rfl, OM.row' (by first | rfl | simp_all)⟩, trivial⟩
   ·rw [if_pos f3] at h
    refine X_cond (lx_ok γ) ?_
    simp -implicitDefEqProofs only [go_sem, seval, f1, f2, f3, hq]
    refine X_sr (lx_ok γ) ?_
    simp -implicitDefEqProofs only [go_sem, seval, f1, f2, f3, hq]
    obtain rfl := sI h
    refine X_ret ?_
    simp -implicitDefEqProofs only [go_sem, seval, f1, f2, f3, hq]
    exact Rt.mv [(1, 0)] (BaseR.refl hob) (by simp) (by decide) (VM.rowL (j := 1) (t := 0) rfl (by first | rfl | omega | (simp [*]; done) | simp | simp_all)) ⟨⟨_, rfl, OM.row' (by first | rfl | simp_all)⟩, trivial⟩
 ·rw [if_pos f1] at h
  refine X_cond (lx_ok γ) ?_
  simp -implicitDefEqProofs only [go_sem, seval, f1, hq]
  refine X_sr (lx_ok γ) ?_
  simp -implicitDefEqProofs only [go_sem, seval, f1, hq]
  obtain rfl := sI h
  refine X_ret ?_
  simp -implicitDefEqProofs only [go_sem, seval, f1, hq]
  exact Rt.mv [(1, 0)] (BaseR.refl hob) (by simp) (by decide) (VM.rowL (j := 1) (t := 0) rfl (by first | rfl | omega | (simp [*]; done) | simp | simp_all)) ⟨⟨_, rfl, OM.row' (by first | rfl | simp_all)⟩, trivial⟩
end Go.Pf
end
section
set_option maxRecDepth 100000
namespace Go.Pf
open Go Go.Ab Go.Pp Go.Proofs Go.Proofs.S08
attribute [local go_sem] Lxτ Lxγ gam0 gam1 Int.toNat_natCast List.append_eq List.cons_append List.nil_append tau3 tau4 tau9 tau22 tau24 tau25 tau27 tau33 tau35 tau36 tau38 eI eB eS e_Ins e_Block e_Func e_Prog e_kind_state eL_Intu64
set_option maxHeartbeats 1000000 in
theorem portolanref04_Ins_ok (γ : GT) (ob : OT) {a0 : Prog} {v0_0 : V} {a1 : Int} {a2 : Ins} {v2_6 : V} (hv0_0 : rdK (getO ob) 5 v0_0 = some (List.map e_Func a0.Funcs)) (hv2_6 : rdK (getO ob) 1 v2_6 = some (List.map (eI .i64) a2.Args)) {r : Bool} (h : portolanref04_Ins a0 a1 a2 = some r) :
  Valid (Lx γ) 9 [V.agg [v0_0], vint .i64 a1, V.agg [vint .i64 a2.Op, vint .i64 a2.D, vint .i64 a2.A, vint .i64 a2.B, vint .i64 a2.N, vint .i64 a2.M, v2_6]] ob (vbool r) ob := by
 refine valid_X (lx_ok γ) (fn := Tryd.f9) (rs := [.tmp 6]) Tryd.func9 (by kernel_rfl) rfl rfl Tryd.ntmps9 rfl (by simp) fun hb hob => ?_
 have hq := And.intro (rd4 hv0_0) (rd4 hv2_6)
 rw [portolanref04_Ins] at h
 refine X_sr (lx_ok γ) ?_
 simp -implicitDefEqProofs only [go_sem, seval, hq]
 refine X_seq ?_
 refine X_seq ?_
 refine X_jq (J := fun as1 ob1 => ∃ (x2 : Bool), portolanref04_Ins.j1 a0 a1 a2 x2 = some r ∧ [(1, vint .i64 a1), (3, V.ref ob.length 0), (5, V.ref (ob.length + 1) 0), (31, vbool x2)] = as1 ∧ ob ++ [some (O.box [v0_0]), some (O.box [vint .i64 a2.Op, vint .i64 a2.D, vint .i64 a2.A, vint .i64 a2.B, vint .i64 a2.N, vint .i64 a2.M, v2_6])] = ob1) ?_ ?_
 ·rintro as1 ob1 ⟨x2, h, rfl, rfl⟩
  rw [portolanref04_Ins.j1] at h
  simp -implicitDefEqProofs only [go_sem, seval, hq]
  cases f1 : x2
  ·rw [if_neg (nF f1)] at h
   refine X_cond (lx_ok γ) ?_
   simp -implicitDefEqProofs only [go_sem, seval, f1, hq]
   refine X_skip ?_
   try simp -implicitDefEqProofs only [go_sem]
   refine X_sr (lx_ok γ) ?_
   obtain ⟨x3, f2, h⟩ := bindE h
   obtain ⟨f3, f4, f5⟩ := ixL_some f2
   try simp only [Int.toNat_natCast, Int.reduceToNat] at f5
   simp -implicitDefEqProofs only [go_sem, seval, f1, hq, f3, f4, f5]
   refine X_sr (lx_ok γ) ?_
   obtain ⟨x4, f6, h⟩ := bindE h
   simp -implicitDefEqProofs only [go_sem, seval, f1, hq]
   refine callV_eq (portolanref04_Uses_ok γ _ (by first | exact rdK_app hv2_6 | exact hv2_6) f6) rfl rfl ?_
   simp -implicitDefEqProofs only [go_sem, seval, f1, hq]
   refine X_sr (lx_ok γ) ?_
   obtain ⟨x5, f7, h⟩ := bindE h
   simp -implicitDefEqProofs only [go_sem, seval, f1, hq]
   refine callV_eq (portolanref04_Sets_ok γ _ (by first | exact rdK_app hv2_6 | exact hv2_6) f7) rfl rfl ?_
   simp -implicitDefEqProofs only [go_sem, seval, f1, hq]
   refine X_seq ?_
   refine X_jq (J := fun as1 ob1 => ∃ (x6 : List Int), portolanref04_Ins.j2 a0 a2 x3 x6 = some r ∧ [(3, V.ref ob.length 0), (5, V.ref (ob.length + 1) 0), (7, V.ref (ob.length + 2) 0), (8, V.row (ob.length + 3) 0 0 (List.length x6))] = as1 ∧ ob ++ [some (O.box [v0_0]), some (O.box [vint .i64 a2.Op, vint .i64 a2.D, vint .i64 a2.A, vint .i64 a2.B, vint .i64 a2.N, vint .i64 a2.M, v2_6]), some (O.box [V.tr (.sl 1 false (List.map (eI .i64) x3.Kinds)), V.tr (.sl 1 false (List.map (eI .i64) x3.Base)), vint .i64 x3.Params, vint .i64 x3.Result, V.tr (.sl 1 false (List.map e_Block x3.Blocks))]), some (O.row 1 0 (List.map (eI .i64) x6))] = ob1) ?_ ?_
   ·rintro as1 ob1 ⟨x6, h, rfl, rfl⟩
    rw [portolanref04_Ins.j2] at h
    simp -implicitDefEqProofs only [go_sem, seval, f1, hq]
    refine X_seq ?_
    refine X_sr (lx_ok γ) ?_
    simp -implicitDefEqProofs only [go_sem, seval, f1, hq]
    refine X_jq (J := fun as1 ob1 => portolanref04_Ins.k1 a0 a2 x3 = some r ∧ [(3, V.ref ob.length 0), (5, V.ref (ob.length + 1) 0), (7, V.ref (ob.length + 2) 0)] = as1 ∧ ob ++ [some (O.box [v0_0]), some (O.box [vint .i64 a2.Op, vint .i64 a2.D, vint .i64 a2.A, vint .i64 a2.B, vint .i64 a2.N, vint .i64 a2.M, v2_6]), some (O.box [V.tr (.sl 1 false (List.map (eI .i64) x3.Kinds)), V.tr (.sl 1 false (List.map (eI .i64) x3.Base)), vint .i64 x3.Params, vint .i64 x3.Result, V.tr (.sl 1 false (List.map e_Block x3.Blocks))])] = ob1) ?_ ?_
    ·rintro as1 ob1 ⟨h, rfl, rfl⟩
     rw [portolanref04_Ins.k1] at h
     simp -implicitDefEqProofs only [go_sem, seval, f1, hq]
     refine X_sr (lx_ok γ) ?_
     obtain ⟨x8, f8, h⟩ := bindE h
     simp -implicitDefEqProofs only [go_sem, seval, f1, hq]
     refine callV_eq (portolanref04_Next_ok γ _ (by first | exact rdK_app hv2_6 | exact hv2_6) f8) rfl rfl ?_
     simp -implicitDefEqProofs only [go_sem, seval, f1, hq]
     refine X_seq ?_
     refine X_sr (lx_ok γ) ?_
     simp -implicitDefEqProofs only [go_sem, seval, f1, hq]
     refine X_jq (J := fun as1 ob1 => portolanref04_Ins.k2 a0 a2 = some r ∧ [(3, V.ref ob.length 0), (5, V.ref (ob.length + 1) 0)] = as1 ∧ ob ++ [some (O.box [v0_0]), some (O.box [vint .i64 a2.Op, vint .i64 a2.D, vint .i64 a2.A, vint .i64 a2.B, vint .i64 a2.N, vint .i64 a2.M, v2_6])] = ob1) ?_ ?_
     ·rintro as1 ob1 ⟨h, rfl, rfl⟩
      rw [portolanref04_Ins.k2] at h
      simp -implicitDefEqProofs only [go_sem, seval, f1, hq]
      refine X_seq ?_
      refine X_sr (lx_ok γ) ?_
      simp -implicitDefEqProofs only [go_sem, seval, f1, hq]
      refine X_block ?_
      refine X_sr (lx_ok γ) ?_
      simp -implicitDefEqProofs only [go_sem, seval, f1, hq]
      cases f9 : (a2.Op == 19)
      ·rw [if_neg (nF f9)] at h
       refine X_cond (lx_ok γ) ?_
       simp -implicitDefEqProofs only [go_sem, seval, f1, f9, hq]
       refine X_sr (lx_ok γ) ?_
       simp -implicitDefEqProofs only [go_sem, seval, f1, f9, hq]
       cases f10 : (a2.Op == 1)
       ·rw [if_neg (nF f10)] at h
        refine X_cond (lx_ok γ) ?_
        simp -implicitDefEqProofs only [go_sem, seval, f1, f9, f10, hq]
        refine X_sr (lx_ok γ) ?_
        simp -implicitDefEqProofs only [go_sem, seval, f1, f9, f10, hq]
        cases f11 : (a2.Op == 16)
        ·rw [if_neg (nF f11)] at h
         refine X_cond (lx_ok γ) ?_
         simp -implicitDefEqProofs only [go_sem, seval, f1, f9, f10, f11, hq]
         refine X_sr (lx_ok γ) ?_
         simp -implicitDefEqProofs only [go_sem, seval, f1, f9, f10, f11, hq]
         cases f12 : (a2.Op == 10)
         ·rw [if_neg (nF f12)] at h
          refine X_cond (lx_ok γ) ?_
          simp -implicitDefEqProofs only [go_sem, seval, f1, f9, f10, f11, f12, hq]
          refine X_seq ?_
          refine X_jq (J := fun as1 ob1 => ∃ (x14 : Bool), portolanref04_Ins.j3 a2 x14 = some r ∧ [(5, V.ref ob.length 0), (127, vbool x14)] = as1 ∧ ob ++ [some (O.box [vint .i64 a2.Op, vint .i64 a2.D, vint .i64 a2.A, vint .i64 a2.B, vint .i64 a2.N, vint .i64 a2.M, v2_6])] = ob1) ?_ ?_
          ·rintro as1 ob1 ⟨x14, h, rfl, rfl⟩
           rw [portolanref04_Ins.j3] at h
           simp -implicitDefEqProofs only [go_sem, seval, f1, f9, f10, f11, f12, hq]
           cases f13 : x14
           ·rw [if_neg (nF f13)] at h
            refine X_cond (lx_ok γ) ?_
            simp -implicitDefEqProofs only [go_sem, seval, f1, f9, f10, f11, f12, f13, hq]
            refine X_skip ?_
            try simp -implicitDefEqProofs only [go_sem]
            refine X_sr (lx_ok γ) ?_
            simp -implicitDefEqProofs only [go_sem, seval, f1, f9, f10, f11, f12, f13, hq]
            obtain rfl := sI h
            refine X_ret ?_
            simp -implicitDefEqProofs only [go_sem, seval, f1, f9, f10, f11, f12, f13, hq]
            exact Rt.mv0 (BaseR.refl hob) (by simp) (vS)
           ·rw [if_pos f13] at h
            refine X_cond (lx_ok γ) ?_
            simp -implicitDefEqProofs only [go_sem, seval, f1, f9, f10, f11, f12, f13, hq]
            refine X_sr (lx_ok γ) ?_
            obtain ⟨x15, f14, h⟩ := bindE h
            simp -implicitDefEqProofs only [go_sem, seval, f1, f9, f10, f11, f12, f13, hq]
            refine callV_eq (portolanref04_within_ok γ _  f14) rfl rfl ?_
            simp -implicitDefEqProofs only [go_sem, seval, f1, f9, f10, f11, f12, f13, hq]
            obtain rfl := sI h
            refine X_ret ?_
            simp -implicitDefEqProofs only [go_sem, seval, f1, f9, f10, f11, f12, f13, hq]
            exact Rt.mv0 (BaseR.refl hob) (by simp) (vS)
          ·refine X_sr (lx_ok γ) ?_
           simp -implicitDefEqProofs only [go_sem, seval, f1, f9, f10, f11, f12, hq]
           cases f15 : (a2.Op == 11)
           ·rw [if_neg (nF f15)] at h
            refine X_cond (lx_ok γ) ?_
            simp -implicitDefEqProofs only [go_sem, seval, f1, f9, f10, f11, f12, f15, hq]
            refine X_sr (lx_ok γ) ?_
            simp -implicitDefEqProofs only [go_sem, seval, f1, f9, f10, f11, f12, f15, hq]
            cases f16 : (a2.Op == 12)
            ·rw [if_neg (nF f16)] at h
             refine X_cond (lx_ok γ) ?_
             simp -implicitDefEqProofs only [go_sem, seval, f1, f9, f10, f11, f12, f15, f16, hq]
             refine X_sr (lx_ok γ) ?_
             simp -implicitDefEqProofs only [go_sem, seval, f1, f9, f10, f11, f12, f15, f16, hq]
             cases f17 : (a2.Op == 13)
             ·rw [if_neg (nF f17)] at h
              refine X_cond (lx_ok γ) ?_
              simp -implicitDefEqProofs only [go_sem, seval, f1, f9, f10, f11, f12, f15, f16, f17, hq]
              refine X_sr (lx_ok γ) ?_
              simp -implicitDefEqProofs only [go_sem, seval, f1, f9, f10, f11, f12, f15, f16, f17, hq]
              cases f18 : (a2.Op == 14)
              ·rw [if_neg (nF f18)] at h
               refine X_cond (lx_ok γ) ?_
               simp -implicitDefEqProofs only [go_sem, seval, f1, f9, f10, f11, f12, f15, f16, f17, f18, hq]
               refine X_reg (lx_ok γ) ?_
               simp -implicitDefEqProofs only [go_sem, seval, f1, f9, f10, f11, f12, f15, f16, f17, f18, hq]
               refine kJ_in ?_ ⟨(a2.Op == 15), h, rfl, rfl⟩
               exact To.mv [(1, 0)] (BaseR.refl hob) (by simp) (by decide) (by simp only [go_sem]; exact ⟨VM.refA (j := 1) (t := 0) rfl, vS⟩) ⟨⟨_, rfl, OM.box _ _ ⟨vS, vS, vS, vS, vS, vS, VM.self (by simpa using Bd.of_rdK hv2_6), trivial⟩⟩, trivial⟩
              ·rw [if_pos f18] at h
               refine X_cond (lx_ok γ) ?_
               simp -implicitDefEqProofs only [go_sem, seval, f1, f9, f10, f11, f12, f15, f16, f17, f18, hq]
               refine X_skip ?_
               try simp -implicitDefEqProofs only [go_sem]
               refine kJ_in ?_ ⟨true, h, rfl, rfl⟩
               exact To.mv [(1, 0)] (BaseR.refl hob) (by simp) (by decide) (by simp only [go_sem]; exact ⟨VM.refA (j := 1) (t := 0) rfl, vS⟩) ⟨⟨_, rfl, OM.box _ _ ⟨vS, vS, vS, vS, vS, vS, VM.self (by simpa using Bd.of_rdK hv2_6), trivial⟩⟩, trivial⟩
             ·rw [if_pos f17] at h
              refine X_cond (lx_ok γ) ?_
              simp -implicitDefEqProofs only [go_sem, seval, f1, f9, f10, f11, f12, f15, f16, f17, hq]
              refine X_skip ?_
              try simp -implicitDefEqProofs only [go_sem]
              refine kJ_in ?_ ⟨true, h, rfl, rfl⟩
              exact To.mv [(1, 0)] (BaseR.refl hob) (by simp) (by decide) (by simp only [go_sem]; exact ⟨VM.refA (j := 1) (t := 0) rfl, vS⟩) ⟨⟨_, rfl, OM.box _ _ ⟨vS, vS, vS, vS, vS, vS, VM.self (by simpa using Bd.of_rdK hv2_6), trivial⟩⟩, trivial⟩
            ·rw [if_pos f16] at h
             refine X_cond (lx_ok γ) ?_
             simp -implicitDefEqProofs only [go_sem, seval, f1, f9, f10, f11, f12, f15, f16, hq]
             refine X_skip ?_
             try simp -implicitDefEqProofs only [go_sem]
             refine kJ_in ?_ ⟨true, h, rfl, rfl⟩
             exact To.mv [(1, 0)] (BaseR.refl hob) (by simp) (by decide) (by simp only [go_sem]; exact ⟨VM.refA (j := 1) (t := 0) rfl, vS⟩) ⟨⟨_, rfl, OM.box _ _ ⟨vS, vS, vS, vS, vS, vS, VM.self (by simpa using Bd.of_rdK hv2_6), trivial⟩⟩, trivial⟩
           ·rw [if_pos f15] at h
            refine X_cond (lx_ok γ) ?_
            simp -implicitDefEqProofs only [go_sem, seval, f1, f9, f10, f11, f12, f15, hq]
            refine X_skip ?_
            try simp -implicitDefEqProofs only [go_sem]
            refine kJ_in ?_ ⟨true, h, rfl, rfl⟩
            exact To.mv [(1, 0)] (BaseR.refl hob) (by simp) (by decide) (by simp only [go_sem]; exact ⟨VM.refA (j := 1) (t := 0) rfl, vS⟩) ⟨⟨_, rfl, OM.box _ _ ⟨vS, vS, vS, vS, vS, vS, VM.self (by simpa using Bd.of_rdK hv2_6), trivial⟩⟩, trivial⟩
         ·rw [if_pos f12] at h
          refine X_cond (lx_ok γ) ?_
          simp -implicitDefEqProofs only [go_sem, seval, f1, f9, f10, f11, f12, hq]
          refine X_sr (lx_ok γ) ?_
          obtain ⟨x16, f19, h⟩ := bindE h
          simp -implicitDefEqProofs only [go_sem, seval, f1, f9, f10, f11, f12, hq]
          refine callV_eq (portolanref04_within_ok γ _  f19) rfl rfl ?_
          cases f20 : x16
          ·rw [if_neg (nF f20)] at h
           simp -implicitDefEqProofs only [go_sem, seval, f1, f9, f10, f11, f12, f20, hq]
           obtain rfl := sI h
           refine X_ret ?_
           simp -implicitDefEqProofs only [go_sem, seval, f1, f9, f10, f11, f12, f20, hq]
           exact Rt.mv0 (BaseR.refl hob) (by simp) (vS)
          ·rw [if_pos f20] at h
           obtain ⟨x17, f21, h⟩ := bindE h
           simp -implicitDefEqProofs only [go_sem, seval, f1, f9, f10, f11, f12, f20, hq]
           refine callV_eq (portolanref04_within_ok γ _  f21) rfl rfl ?_
           simp -implicitDefEqProofs only [go_sem, seval, f1, f9, f10, f11, f12, f20, hq]
           obtain rfl := sI h
           refine X_ret ?_
           simp -implicitDefEqProofs only [go_sem, seval, f1, f9, f10, f11, f12, f20, hq]
           exact Rt.mv0 (BaseR.refl hob) (by simp) (vS)
        ·rw [if_pos f11] at h
         refine X_cond (lx_ok γ) ?_
         simp -implicitDefEqProofs only [go_sem, seval, f1, f9, f10, f11, hq]
         refine X_sr (lx_ok γ) ?_
         obtain ⟨x18, f22, h⟩ := bindE h
         simp -implicitDefEqProofs only [go_sem, seval, f1, f9, f10, f11, hq]
         refine callV_eq (portolanref04_within_ok γ _  f22) rfl rfl ?_
         simp -implicitDefEqProofs only [go_sem, seval, f1, f9, f10, f11, hq]
         obtain rfl := sI h
         refine X_ret ?_
         simp -implicitDefEqProofs only [go_sem, seval, f1, f9, f10, f11, hq]
         exact Rt.mv0 (BaseR.refl hob) (by simp) (vS)
       ·rw [if_pos f10] at h
        refine X_cond (lx_ok γ) ?_
        simp -implicitDefEqProofs only [go_sem, seval, f1, f9, f10, hq]
        refine X_sr (lx_ok γ) ?_
        obtain ⟨x19, f23, h⟩ := bindE h
        simp -implicitDefEqProofs only [go_sem, seval, f1, f9, f10, hq]
        refine callV_eq (portolanref04_within_ok γ _  f23) rfl rfl ?_
        simp -implicitDefEqProofs only [go_sem, seval, f1, f9, f10, hq]
        obtain rfl := sI h
        refine X_ret ?_
        simp -implicitDefEqProofs only [go_sem, seval, f1, f9, f10, hq]
        exact Rt.mv0 (BaseR.refl hob) (by simp) (vS)
      ·rw [if_pos f9] at h
       refine X_cond (lx_ok γ) ?_
       simp -implicitDefEqProofs only [go_sem, seval, f1, f9, hq]
       refine X_seq ?_
       refine X_drawn (lx_ok γ) [[], [0], [], [2], [2, 3], [2, 3, 4], [0, 1, 2, 3, 4, 5], [0, 1, 2, 3, 4, 5, 6], [0, 1, 2, 3, 4, 5, 6, 7], [0, 1, 2, 3, 4, 5, 6, 7, 8], [0, 1, 2, 3, 4, 5, 6, 7, 8, 9], [0, 1, 2, 3, 4, 5, 6, 7], [0, 1, 2, 3, 4, 5, 6, 7, 11], [0, 1, 2, 3, 4, 5, 6, 7], [0, 1, 2, 3, 4, 5, 6, 7, 13], [0, 1, 2, 3, 4, 5, 6, 7, 11, 12, 13, 14], [0, 1, 2, 3, 4, 5, 6, 7, 11, 12, 13, 14, 15], [0, 1, 2, 3, 4, 5, 6, 7, 11, 12, 13, 14, 15, 16], [0, 1, 2, 3, 4, 5, 6, 7, 8, 9, 10, 11, 12, 13, 14, 15, 16, 17], [0, 1, 2, 3, 4, 5, 6, 7, 8, 9, 10, 11, 12, 13, 14, 15, 16, 17, 18], [0, 1, 2, 3, 4, 5, 6, 7, 8, 9, 10, 11, 12, 13, 14, 15, 16, 17, 18, 19]] (fun i => match i with | _ => false) (by kernel_rfl) ?_
       obtain ⟨x20, f24, h⟩ := bindE h
       try simp -implicitDefEqProofs only [go_sem, seval, f1, f9, hq, cmpr, List.getD_cons_zero, List.getD_cons_succ, List.contains_cons, List.contains_nil, Nat.reduceBEq, Bool.false_or, Bool.or_false, Bool.true_or, Bool.or_true, beq_self_eq_true]
       refine callV_eq (portolanref04_within_ok γ _  f24) rfl rfl ?_
       cases f25 : x20
       ·rw [if_neg (nF f25)] at h
        try simp -implicitDefEqProofs only [go_sem, seval, f1, f9, f25, hq, cmpr, List.getD_cons_zero, List.getD_cons_succ, List.contains_cons, List.contains_nil, Nat.reduceBEq, Bool.false_or, Bool.or_false, Bool.true_or, Bool.or_true, beq_self_eq_true]
        obtain rfl := sI h
        refine X_ret ?_
        simp -implicitDefEqProofs only [go_sem, seval, f1, f9, f25, hq]
        exact Rt.mv0 (BaseR.refl hob) (by simp) (vS)
       ·rw [if_pos f25] at h
        obtain ⟨x21, f26, h⟩ := bindE h
        obtain ⟨f27, f28, f29⟩ := ixL_some f26
        try simp only [Int.toNat_natCast, Int.reduceToNat] at f29
        try simp -implicitDefEqProofs only [go_sem, seval, f1, f9, f25, hq, f27, f28, f29, cmpr, List.getD_cons_zero, List.getD_cons_succ, List.contains_cons, List.contains_nil, Nat.reduceBEq, Bool.false_or, Bool.or_false, Bool.true_or, Bool.or_true, beq_self_eq_true]
        obtain rfl := sI h
        refine X_ret ?_
        simp -implicitDefEqProofs only [go_sem, seval, f1, f9, f25, hq, f27, f28, f29]
        exact Rt.mv0 (BaseR.refl hob) (by simp) (vS)
     ·refine X_block ?_
      obtain ⟨lr2, hl2, hk2, hr2⟩ := aft2 h
      refine X_forN hl2 (fun (i2 : Nat) (s : Unit) as1 ob1 => [(3, V.ref ob.length 0), (5, V.ref (ob.length + 1) 0), (7, V.ref (ob.length + 2) 0), (12, V.row (ob.length + 3) 0 0 (List.length x8)), (13, vint .i64 (i2 : Int))] = as1 ∧ ob ++ [some (O.box [v0_0]), some (O.box [vint .i64 a2.Op, vint .i64 a2.D, vint .i64 a2.A, vint .i64 a2.B, vint .i64 a2.N, vint .i64 a2.M, v2_6]), some (O.box [V.tr (.sl 1 false (List.map (eI .i64) x3.Kinds)), V.tr (.sl 1 false (List.map (eI .i64) x3.Base)), vint .i64 x3.Params, vint .i64 x3.Result, V.tr (.sl 1 false (List.map e_Block x3.Blocks))]), some (O.row 1 0 (List.map (eI .i64) x8))] = ob1) ⟨_, _, ?_, rfl, rfl⟩ ?_ ?_
      ·exact To.mv [(0, 0), (1, 0), (2, 0), (3, 0)] (BaseR.refl hob) (by simp) (by decide) (by simp only [go_sem]; exact ⟨VM.refA (j := 0) (t := 0) rfl, VM.refA (j := 1) (t := 1) rfl, VM.refA (j := 2) (t := 2) rfl, VM.rowL (j := 3) (t := 3) rfl (by first | rfl | omega | (simp [*]; done) | simp | simp_all), VM.eqv (by simp) (by simp)⟩) ⟨⟨_, rfl, OM.box _ _ ⟨VM.self (by simpa using Bd.of_rdK hv0_0), trivial⟩⟩, ⟨_, rfl, OM.box _ _ ⟨vS, vS, vS, vS, vS, vS, VM.self (by simpa using Bd.of_rdK hv2_6), trivial⟩⟩, ⟨_, rfl, OM.box _ _ ⟨vS, vS, vS, vS, vS, trivial⟩⟩, ⟨_, rfl, OM.row' (by first | rfl | simp_all)⟩, trivial⟩
      ·rintro i2 _ o2 hi2 hw2 h ho2 as1 ob1 ⟨rfl, rfl⟩
       rw [portolanref04_Ins.b2] at h
       refine X_seq ?_
       refine X_sr (lx_ok γ) ?_
       simp -implicitDefEqProofs only [go_sem, seval, f1, hi2, hq]
       refine X_cond (lx_ok γ) ?_
       simp -implicitDefEqProofs only [go_sem, seval, f1, hi2, hq]
       refine X_skip ?_
       try simp -implicitDefEqProofs only [go_sem]
       refine X_seq ?_
       refine X_block ?_
       refine X_seq ?_
       refine X_drawn (lx_ok γ) [[], [], [0, 1], [0, 1, 2], [], [4], [4, 5], [4, 5, 6], [0, 1, 2, 3, 4, 5, 6, 7], [0, 1, 2, 3, 4, 5, 6, 7, 8]] (fun i => match i with | _ => false) (by kernel_rfl) ?_
       obtain ⟨x22, f30, h⟩ := bindE h
       obtain ⟨f31, f32⟩ := ixL_nat f30
       have f33 : (0 : Int) ≤ (i2 : Int) := Int.natCast_nonneg _
       obtain ⟨x23, f34, h⟩ := bindE h
       try simp -implicitDefEqProofs only [go_sem, seval, f1, hi2, hq, f31, f32, f33, cmpr, List.getD_cons_zero, List.getD_cons_succ, List.contains_cons, List.contains_nil, Nat.reduceBEq, Bool.false_or, Bool.or_false, Bool.true_or, Bool.or_true, beq_self_eq_true]
       refine callV_eq (portolanref04_within_ok γ _  f34) rfl rfl ?_
       try simp -implicitDefEqProofs only [go_sem, seval, f1, hi2, hq, f31, f32, f33, cmpr, List.getD_cons_zero, List.getD_cons_succ, List.contains_cons, List.contains_nil, Nat.reduceBEq, Bool.false_or, Bool.or_false, Bool.true_or, Bool.or_true, beq_self_eq_true]
       cases f35 : x23
       ·rw [if_neg (nF f35)] at h
        refine X_cond (lx_ok γ) ?_
        simp -implicitDefEqProofs only [go_sem, seval, f1, hi2, f35, hq, f31, f32, f33]
        refine X_sr (lx_ok γ) ?_
        simp -implicitDefEqProofs only [go_sem, seval, f1, hi2, f35, hq]
        obtain rfl := sI h
        have h := hr2 _ (ho2 (fun _ hs => nomatch hs))
        obtain rfl := sI h
        refine X_ret ?_
        simp -implicitDefEqProofs only [go_sem, seval, f1, hi2, f35, hq]
        exact Rt.mv0 (BaseR.refl hob) (by simp) (vS)
       ·rw [if_pos f35] at h
        refine X_cond (lx_ok γ) ?_
        simp -implicitDefEqProofs only [go_sem, seval, f1, hi2, f35, hq, f31, f32, f33]
        refine X_skip ?_
        try simp -implicitDefEqProofs only [go_sem]
        refine X_reg (lx_ok γ) ?_
        obtain rfl := sI h
        simp -implicitDefEqProofs only [go_sem, seval, f1, hi2, f35, hq]
        refine kR_in rfl ?_ ⟨rfl, rfl⟩
        exact To.mv [(0, 0), (1, 0), (2, 0), (3, 0)] (BaseR.refl hob) (by simp) (by decide) (by simp only [go_sem]; exact ⟨VM.refA (j := 0) (t := 0) rfl, VM.refA (j := 1) (t := 1) rfl, VM.refA (j := 2) (t := 2) rfl, VM.rowL (j := 3) (t := 3) rfl (by first | rfl | omega | (simp [*]; done) | simp | simp_all), VM.eqv (by rw [hw2]) (by simp)⟩) ⟨⟨_, rfl, OM.box _ _ ⟨VM.self (by simpa using Bd.of_rdK hv0_0), trivial⟩⟩, ⟨_, rfl, OM.box _ _ ⟨vS, vS, vS, vS, vS, vS, VM.self (by simpa using Bd.of_rdK hv2_6), trivial⟩⟩, ⟨_, rfl, OM.box _ _ ⟨vS, vS, vS, vS, vS, trivial⟩⟩, ⟨_, rfl, OM.row' (by first | rfl | simp_all)⟩, trivial⟩
      ·rintro i2 _ hi2 hn2 as1 ob1 ⟨rfl, rfl⟩
       refine X_seq ?_
       refine X_sr (lx_ok γ) ?_
       simp -implicitDefEqProofs only [go_sem, seval, f1, hi2, hq]
       refine X_cond (lx_ok γ) ?_
       simp -implicitDefEqProofs only [go_sem, seval, f1, hi2, hq]
       have h := hk2 _ (.inl hn2)
       refine X_exit ?_
       try simp -implicitDefEqProofs only [go_sem, ↓reduceIte, Nat.reduceEqDiff, reduceCtorEq]
       refine kJ_in ?_ ⟨h, rfl, rfl⟩
       exact To.mv [(0, 0), (1, 0)] (BaseR.refl hob) (by simp) (by decide) (by simp only [go_sem]; exact ⟨VM.refA (j := 0) (t := 0) rfl, VM.refA (j := 1) (t := 1) rfl⟩) ⟨⟨_, rfl, OM.box _ _ ⟨VM.self (by simpa using Bd.of_rdK hv0_0), trivial⟩⟩, ⟨_, rfl, OM.box _ _ ⟨vS, vS, vS, vS, vS, vS, VM.self (by simpa using Bd.of_rdK hv2_6), trivial⟩⟩, trivial⟩
    ·refine X_block ?_
     obtain ⟨lr1, hl1, hk1, hr1⟩ := aft2 h
     refine X_forN hl1 (fun (i1 : Nat) (s : Unit) as1 ob1 => [(3, V.ref ob.length 0), (5, V.ref (ob.length + 1) 0), (7, V.ref (ob.length + 2) 0), (8, V.row (ob.length + 3) 0 0 (List.length x6)), (11, vint .i64 (i1 : Int))] = as1 ∧ ob ++ [some (O.box [v0_0]), some (O.box [vint .i64 a2.Op, vint .i64 a2.D, vint .i64 a2.A, vint .i64 a2.B, vint .i64 a2.N, vint .i64 a2.M, v2_6]), some (O.box [V.tr (.sl 1 false (List.map (eI .i64) x3.Kinds)), V.tr (.sl 1 false (List.map (eI .i64) x3.Base)), vint .i64 x3.Params, vint .i64 x3.Result, V.tr (.sl 1 false (List.map e_Block x3.Blocks))]), some (O.row 1 0 (List.map (eI .i64) x6))] = ob1) ⟨_, _, ?_, rfl, rfl⟩ ?_ ?_
     ·exact To.mv [(0, 0), (1, 0), (2, 0), (3, 0)] (BaseR.refl hob) (by simp) (by decide) (by simp only [go_sem]; exact ⟨VM.refA (j := 0) (t := 0) rfl, VM.refA (j := 1) (t := 1) rfl, VM.refA (j := 2) (t := 2) rfl, VM.rowL (j := 3) (t := 3) rfl (by first | rfl | omega | (simp [*]; done) | simp | simp_all), VM.eqv (by simp) (by simp)⟩) ⟨⟨_, rfl, OM.box _ _ ⟨VM.self (by simpa using Bd.of_rdK hv0_0), trivial⟩⟩, ⟨_, rfl, OM.box _ _ ⟨vS, vS, vS, vS, vS, vS, VM.self (by simpa using Bd.of_rdK hv2_6), trivial⟩⟩, ⟨_, rfl, OM.box _ _ ⟨vS, vS, vS, vS, vS, trivial⟩⟩, ⟨_, rfl, OM.row' (by first | rfl | simp_all)⟩, trivial⟩
     ·rintro i1 _ o1 hi1 hw1 h ho1 as1 ob1 ⟨rfl, rfl⟩
      rw [portolanref04_Ins.b1] at h
      refine X_seq ?_
      refine X_sr (lx_ok γ) ?_
      simp -implicitDefEqProofs only [go_sem, seval, f1, hi1, hq]
      refine X_cond (lx_ok γ) ?_
      simp -implicitDefEqProofs only [go_sem, seval, f1, hi1, hq]
      refine X_skip ?_
      try simp -implicitDefEqProofs only [go_sem]
      refine X_seq ?_
      refine X_block ?_
      refine X_seq ?_
      refine X_drawn (lx_ok γ) [[], [], [0, 1], [0, 1, 2], [], [4], [4, 5], [4, 5, 6], [0, 1, 2, 3, 4, 5, 6, 7], [0, 1, 2, 3, 4, 5, 6, 7, 8]] (fun i => match i with | _ => false) (by kernel_rfl) ?_
      obtain ⟨x24, f36, h⟩ := bindE h
      obtain ⟨f37, f38⟩ := ixL_nat f36
      have f39 : (0 : Int) ≤ (i1 : Int) := Int.natCast_nonneg _
      obtain ⟨x25, f40, h⟩ := bindE h
      try simp -implicitDefEqProofs only [go_sem, seval, f1, hi1, hq, f37, f38, f39, cmpr, List.getD_cons_zero, List.getD_cons_succ, List.contains_cons, List.contains_nil, Nat.reduceBEq, Bool.false_or, Bool.or_false, Bool.true_or, Bool.or_true, beq_self_eq_true]
      refine callV_eq (portolanref04_within_ok γ _  f40) rfl rfl ?_
      try simp -implicitDefEqProofs only [go_sem, seval, f1, hi1, hq, f37, f38, f39, cmpr, List.getD_cons_zero, List.getD_cons_succ, List.contains_cons, List.contains_nil, Nat.reduceBEq, Bool.false_or, Bool.or_false, Bool.true_or, Bool.or_true, beq_self_eq_true]
      cases f41 : x25
      ·rw [if_neg (nF f41)] at h
       refine X_cond (lx_ok γ) ?_
       simp -implicitDefEqProofs only [go_sem, seval, f1, hi1, f41, hq, f37, f38, f39]
       refine X_sr (lx_ok γ) ?_
       simp -implicitDefEqProofs only [go_sem, seval, f1, hi1, f41, hq]
       obtain rfl := sI h
       have h := hr1 _ (ho1 (fun _ hs => nomatch hs))
       obtain rfl := sI h
       refine X_ret ?_
       simp -implicitDefEqProofs only [go_sem, seval, f1, hi1, f41, hq]
       exact Rt.mv0 (BaseR.refl hob) (by simp) (vS)
      ·rw [if_pos f41] at h
       refine X_cond (lx_ok γ) ?_
       simp -implicitDefEqProofs only [go_sem, seval, f1, hi1, f41, hq, f37, f38, f39]
       refine X_skip ?_
       try simp -implicitDefEqProofs only [go_sem]
       refine X_reg (lx_ok γ) ?_
       obtain rfl := sI h
       simp -implicitDefEqProofs only [go_sem, seval, f1, hi1, f41, hq]
       refine kR_in rfl ?_ ⟨rfl, rfl⟩
       exact To.mv [(0, 0), (1, 0), (2, 0), (3, 0)] (BaseR.refl hob) (by simp) (by decide) (by simp only [go_sem]; exact ⟨VM.refA (j := 0) (t := 0) rfl, VM.refA (j := 1) (t := 1) rfl, VM.refA (j := 2) (t := 2) rfl, VM.rowL (j := 3) (t := 3) rfl (by first | rfl | omega | (simp [*]; done) | simp | simp_all), VM.eqv (by rw [hw1]) (by simp)⟩) ⟨⟨_, rfl, OM.box _ _ ⟨VM.self (by simpa using Bd.of_rdK hv0_0), trivial⟩⟩, ⟨_, rfl, OM.box _ _ ⟨vS, vS, vS, vS, vS, vS, VM.self (by simpa using Bd.of_rdK hv2_6), trivial⟩⟩, ⟨_, rfl, OM.box _ _ ⟨vS, vS, vS, vS, vS, trivial⟩⟩, ⟨_, rfl, OM.row' (by first | rfl | simp_all)⟩, trivial⟩
     ·rintro i1 _ hi1 hn1 as1 ob1 ⟨rfl, rfl⟩
      refine X_seq ?_
      refine X_sr (lx_ok γ) ?_
      simp -implicitDefEqProofs only [go_sem, seval, f1, hi1, hq]
      refine X_cond (lx_ok γ) ?_
      simp -implicitDefEqProofs only [go_sem, seval, f1, hi1, hq]
      have h := hk1 _ (.inl hn1)
      refine X_exit ?_
      try simp -implicitDefEqProofs only [go_sem, ↓reduceIte, Nat.reduceEqDiff, reduceCtorEq]
      refine kJ_in ?_ ⟨h, rfl, rfl⟩
      exact To.mv [(0, 0), (1, 0), (2, 0)] (BaseR.refl hob) (by simp) (by decide) (by simp only [go_sem]; exact ⟨VM.refA (j := 0) (t := 0) rfl, VM.refA (j := 1) (t := 1) rfl, VM.refA (j := 2) (t := 2) rfl⟩) ⟨⟨_, rfl, OM.box _ _ ⟨VM.self (by simpa using Bd.of_rdK hv0_0), trivial⟩⟩, ⟨_, rfl, OM.box _ _ ⟨vS, vS, vS, vS, vS, vS, VM.self (by simpa using Bd.of_rdK hv2_6), trivial⟩⟩, ⟨_, rfl, OM.box _ _ ⟨vS, vS, vS, vS, vS, trivial⟩⟩, trivial⟩
   ·refine X_sr (lx_ok γ) ?_
    simp -implicitDefEqProofs only [go_sem, seval, f1, hq]
    cases f42 : x5.2
    ·rw [if_neg (nF f42)] at h
     refine X_cond (lx_ok γ) ?_
     simp -implicitDefEqProofs only [go_sem, seval, f1, f42, hq]
     refine X_skip ?_
     try simp -implicitDefEqProofs only [go_sem]
     refine kJ_in ?_ ⟨x4, h, rfl, rfl⟩
     exact To.mv [(0, 0), (1, 0), (2, 0), (3, 0)] (BaseR.refl hob) (by simp) (by decide) (by simp only [go_sem]; exact ⟨VM.refA (j := 0) (t := 0) rfl, VM.refA (j := 1) (t := 1) rfl, VM.refA (j := 2) (t := 2) rfl, VM.rowL (j := 3) (t := 3) rfl (by first | rfl | omega | (simp [*]; done) | simp | simp_all)⟩) ⟨⟨_, rfl, OM.box _ _ ⟨VM.self (by simpa using Bd.of_rdK hv0_0), trivial⟩⟩, ⟨_, rfl, OM.box _ _ ⟨vS, vS, vS, vS, vS, vS, VM.self (by simpa using Bd.of_rdK hv2_6), trivial⟩⟩, ⟨_, rfl, OM.box _ _ ⟨vS, vS, vS, vS, vS, trivial⟩⟩, ⟨_, rfl, OM.row' (by first | rfl | simp_all)⟩, trivial⟩
    ·rw [if_pos f42] at h
     refine X_cond (lx_ok γ) ?_
     simp -implicitDefEqProofs only [go_sem, seval, f1, f42, hq]
     refine X_reg (lx_ok γ) ?_
     obtain ⟨x26, f43, h⟩ := bindE h
     have f44 : List.length x26 * 8 ≤ 140737488355328 := by have := (appL_some f43).1; rw [(appL_some f43).2]; simpa using this
     have f45 : List.map (eI .i64) x4 ++ [[.lit (.int .i64 x5.1)]] = List.map (eI .i64) x26 := by rw [(appL_some f43).2]; simp [eB, eI, eS]
     have f46 : List.length x4 + 1 = List.length x26 := by rw [(appL_some f43).2]; simp
     simp -implicitDefEqProofs only [go_sem, seval, f1, f42, hq, f44, f45, f46]
     refine kJ_in ?_ ⟨x26, h, rfl, rfl⟩
     exact To.mv [(0, 0), (1, 0), (2, 0), (3, 1)] (BaseR.refl hob) (by simp) (by decide) (by simp only [go_sem]; exact ⟨VM.refA (j := 0) (t := 0) rfl, VM.refA (j := 1) (t := 1) rfl, VM.refA (j := 2) (t := 2) rfl, VM.rowL (j := 3) (t := 3) rfl (by first | rfl | omega | (simp [*]; done) | simp | simp_all)⟩) ⟨⟨_, rfl, OM.box _ _ ⟨VM.self (by simpa using Bd.of_rdK hv0_0), trivial⟩⟩, ⟨_, rfl, OM.box _ _ ⟨vS, vS, vS, vS, vS, vS, VM.self (by simpa using Bd.of_rdK hv2_6), trivial⟩⟩, ⟨_, rfl, OM.box _ _ ⟨vS, vS, vS, vS, vS, trivial⟩⟩, ⟨_, rfl, OM.row' (by first | rfl | simp_all)⟩, trivial⟩
  ·rw [if_pos f1] at h
   refine X_cond (lx_ok γ) ?_
   simp -implicitDefEqProofs only [go_sem, seval, f1, hq]
   refine X_sr (lx_ok γ) ?_
   simp -implicitDefEqProofs only [go_sem, seval, f1, hq]
   obtain rfl := sI h
   refine X_ret ?_
   simp -implicitDefEqProofs only [go_sem, seval, f1, hq]
   exact Rt.mv0 (BaseR.refl hob) (by simp) (vS)
 ·refine X_reg (lx_ok γ) ?_
  obtain ⟨x27, f47, h⟩ := bindE h
  simp -implicitDefEqProofs only [go_sem, seval, hq]
  refine callV_eq (portolanref04_within_ok γ _  f47) rfl rfl ?_
  cases f48 : x27
  ·rw [if_neg (nF f48)] at h
   simp -implicitDefEqProofs only [go_sem, seval, f48, hq]
   refine kJ_in ?_ ⟨true, h, rfl, rfl⟩
   exact To.mv [(0, 0), (1, 0)] (BaseR.refl hob) (by simp) (by decide) (by simp only [go_sem]; exact ⟨vS, VM.refA (j := 0) (t := 0) rfl, VM.refA (j := 1) (t := 1) rfl, vS⟩) ⟨⟨_, rfl, OM.box _ _ ⟨VM.self (by simpa using Bd.of_rdK hv0_0), trivial⟩⟩, ⟨_, rfl, OM.box _ _ ⟨vS, vS, vS, vS, vS, vS, VM.self (by simpa using Bd.of_rdK hv2_6), trivial⟩⟩, trivial⟩
  ·rw [if_pos f48] at h
   obtain ⟨x28, f49, h⟩ := bindE h
   simp -implicitDefEqProofs only [go_sem, seval, f48, hq]
   refine callV_eq (portolanref03_Parts_ok γ _  f49) rfl rfl ?_
   cases f50 : (ByteArray.toList x28 == ByteArray.toList ({ data := #[] } : ByteArray))
   ·rw [if_neg (nF f50)] at h
    obtain ⟨x29, f51, h⟩ := bindE h
    simp -implicitDefEqProofs only [go_sem, seval, f48, f50, hq]
    refine callV_eq (portolanref04_bare_ok γ _ (by first | exact rdK_app hv2_6 | exact hv2_6) f51) rfl rfl ?_
    simp -implicitDefEqProofs only [go_sem, seval, f48, f50, hq]
    refine kJ_in ?_ ⟨(!x29), h, rfl, rfl⟩
    exact To.mv [(0, 0), (1, 0)] (BaseR.refl hob) (by simp) (by decide) (by simp only [go_sem]; exact ⟨vS, VM.refA (j := 0) (t := 0) rfl, VM.refA (j := 1) (t := 1) rfl, vS⟩) ⟨⟨_, rfl, OM.box _ _ ⟨VM.self (by simpa using Bd.of_rdK hv0_0), trivial⟩⟩, ⟨_, rfl, OM.box _ _ ⟨vS, vS, vS, vS, vS, vS, VM.self (by simpa using Bd.of_rdK hv2_6), trivial⟩⟩, trivial⟩
   ·rw [if_pos f50] at h
    simp -implicitDefEqProofs only [go_sem, seval, f48, f50, hq]
    refine kJ_in ?_ ⟨true, h, rfl, rfl⟩
    exact To.mv [(0, 0), (1, 0)] (BaseR.refl hob) (by simp) (by decide) (by simp only [go_sem]; exact ⟨vS, VM.refA (j := 0) (t := 0) rfl, VM.refA (j := 1) (t := 1) rfl, vS⟩) ⟨⟨_, rfl, OM.box _ _ ⟨VM.self (by simpa using Bd.of_rdK hv0_0), trivial⟩⟩, ⟨_, rfl, OM.box _ _ ⟨vS, vS, vS, vS, vS, vS, VM.self (by simpa using Bd.of_rdK hv2_6), trivial⟩⟩, trivial⟩
end Go.Pf
end
section
set_option maxRecDepth 100000
namespace Go.Pf
open Go Go.Ab Go.Pp Go.Proofs Go.Proofs.S08
attribute [local go_sem] Lxτ Lxγ gam0 gam1 Int.toNat_natCast tau3 eI eB eS e_Ins e_Block e_Func e_Prog e_kind_state eL_Intu64
set_option maxHeartbeats 1000000 in
theorem portolanref04_Last_ok (γ : GT) (ob : OT) {a0 : Int} {r : Bool} (h : portolanref04_Last a0 = some r) :
  Valid (Lx γ) 36 [vint .i64 a0] ob (vbool r) ob := by
 refine valid_X (lx_ok γ) (fn := Tryd.f36) (rs := [.tmp 2]) Tryd.func36 (by kernel_rfl) rfl rfl Tryd.ntmps36 rfl (by simp) fun hb hob => ?_
 rw [portolanref04_Last] at h
 refine X_sr (lx_ok γ) ?_
 simp -implicitDefEqProofs only [go_sem, seval]
 refine X_sr (lx_ok γ) ?_
 cases f1 : (a0 == 21)
 ·rw [if_neg (nF f1)] at h
  cases f2 : (a0 == 22)
  ·rw [if_neg (nF f2)] at h
   simp -implicitDefEqProofs only [go_sem, seval, f1, f2]
   obtain rfl := sI h
   refine X_ret ?_
   simp -implicitDefEqProofs only [go_sem, seval, f1, f2]
   exact Rt.mv1 (BaseR.refl hob) (by simp) (vS)
  ·rw [if_pos f2] at h
   simp -implicitDefEqProofs only [go_sem, seval, f1, f2]
   obtain rfl := sI h
   refine X_ret ?_
   simp -implicitDefEqProofs only [go_sem, seval, f1, f2]
   exact Rt.mv1 (BaseR.refl hob) (by simp) (vS)
 ·rw [if_pos f1] at h
  simp -implicitDefEqProofs only [go_sem, seval, f1]
  obtain rfl := sI h
  refine X_ret ?_
  simp -implicitDefEqProofs only [go_sem, seval, f1]
  exact Rt.mv1 (BaseR.refl hob) (by simp) (vS)
end Go.Pf
end
section
set_option maxRecDepth 100000
namespace Go.Pf
open Go Go.Ab Go.Pp Go.Proofs Go.Proofs.S08
attribute [local go_sem] Lxτ Lxγ gam0 gam1 Int.toNat_natCast List.append_eq List.cons_append List.nil_append tau3 tau4 tau25 tau27 tau33 tau35 tau36 tau38 eI eB eS e_Ins e_Block e_Func e_Prog e_kind_state eL_Intu64
set_option maxHeartbeats 1000000 in
theorem portolanref04_Func_ok (γ : GT) (ob : OT) {a0 : Func} {v0_0 : V} {v0_1 : V} {v0_4 : V} (hv0_0 : rdK (getO ob) 1 v0_0 = some (List.map (eI .i64) a0.Kinds)) (hv0_1 : rdK (getO ob) 1 v0_1 = some (List.map (eI .i64) a0.Base)) (hv0_4 : rdK (getO ob) 1 v0_4 = some (List.map e_Block a0.Blocks)) {r : Bool} (h : portolanref04_Func a0 = some r) :
  Valid (Lx γ) 21 [V.agg [v0_0, v0_1, vint .i64 a0.Params, vint .i64 a0.Result, v0_4]] ob (vbool r) ob := by
 refine valid_X (lx_ok γ) (fn := Tryd.f21) (rs := [.tmp 2]) Tryd.func21 (by kernel_rfl) rfl rfl Tryd.ntmps21 rfl (by simp) fun hb hob => ?_
 have hq := And.intro (rd4 hv0_0) (And.intro (rd4 hv0_1) (rd4 hv0_4))
 rw [portolanref04_Func] at h
 refine X_sr (lx_ok γ) ?_
 simp -implicitDefEqProofs only [go_sem, seval, hq]
 refine X_sr (lx_ok γ) ?_
 simp -implicitDefEqProofs only [go_sem, seval, hq]
 refine X_seq ?_
 refine X_seq ?_
 refine X_jq (J := fun as1 ob1 => ∃ (x2 : Bool), portolanref04_Func.j1 a0 x2 = some r ∧ [(1, V.ref ob.length 0), (3, vint .i64 (List.length a0.Kinds : Int)), (40, vbool x2)] = as1 ∧ ob ++ [some (O.box [v0_0, v0_1, vint .i64 a0.Params, vint .i64 a0.Result, v0_4])] = ob1) ?_ ?_
 ·rintro as1 ob1 ⟨x2, h, rfl, rfl⟩
  rw [portolanref04_Func.j1] at h
  simp -implicitDefEqProofs only [go_sem, seval, hq]
  cases f1 : x2
  ·rw [if_neg (nF f1)] at h
   refine X_cond (lx_ok γ) ?_
   simp -implicitDefEqProofs only [go_sem, seval, f1, hq]
   refine X_skip ?_
   try simp -implicitDefEqProofs only [go_sem]
   refine X_seq ?_
   refine X_sr (lx_ok γ) ?_
   simp -implicitDefEqProofs only [go_sem, seval, f1, hq]
   refine X_jq (J := fun as1 ob1 => portolanref04_Func.k1 a0 = some r ∧ [(1, V.ref ob.length 0)] = as1 ∧ ob ++ [some (O.box [v0_0, v0_1, vint .i64 a0.Params, vint .i64 a0.Result, v0_4])] = ob1) ?_ ?_
   ·rintro as1 ob1 ⟨h, rfl, rfl⟩
    rw [portolanref04_Func.k1] at h
    simp -implicitDefEqProofs only [go_sem, seval, f1, hq]
    refine X_seq ?_
    refine X_sr (lx_ok γ) ?_
    simp -implicitDefEqProofs only [go_sem, seval, f1, hq]
    refine X_jq (J := fun as1 ob1 => portolanref04_Func.k2 = some r ∧ [] = as1 ∧ ob = ob1) ?_ ?_
    ·rintro as1 ob1 ⟨h, rfl, rfl⟩
     rw [portolanref04_Func.k2] at h
     simp -implicitDefEqProofs only [go_sem, seval, f1, hq]
     refine X_sr (lx_ok γ) ?_
     simp -implicitDefEqProofs only [go_sem, seval, f1, hq]
     obtain rfl := sI h
     refine X_ret ?_
     simp -implicitDefEqProofs only [go_sem, seval, f1, hq]
     exact Rt.mv1 (BaseR.refl hob) (by simp) (vS)
    ·refine X_block ?_
     obtain ⟨lr2, hl2, hk2, hr2⟩ := aft2 h
     refine X_forN hl2 (fun (i2 : Nat) (s : Unit) as1 ob1 => [(1, V.ref ob.length 0), (5, vint .i64 (i2 : Int))] = as1 ∧ ob ++ [some (O.box [v0_0, v0_1, vint .i64 a0.Params, vint .i64 a0.Result, v0_4])] = ob1) ⟨_, _, ?_, rfl, rfl⟩ ?_ ?_
     ·exact To.mv [(0, 0)] (BaseR.refl hob) (by simp) (by decide) (by simp only [go_sem]; exact ⟨VM.refA (j := 0) (t := 0) rfl, VM.eqv (by simp) (by simp)⟩) ⟨⟨_, rfl, OM.box _ _ ⟨VM.self (by simpa using Bd.of_rdK hv0_0), VM.self (by simpa using Bd.of_rdK hv0_1), vS, vS, VM.self (by simpa using Bd.of_rdK hv0_4), trivial⟩⟩, trivial⟩
     ·rintro i2 _ o2 hi2 hw2 h ho2 as1 ob1 ⟨rfl, rfl⟩
      rw [portolanref04_Func.b2] at h
      refine X_seq ?_
      refine X_sr (lx_ok γ) ?_
      simp -implicitDefEqProofs only [go_sem, seval, f1, hi2, hq]
      refine X_cond (lx_ok γ) ?_
      simp -implicitDefEqProofs only [go_sem, seval, f1, hi2, hq]
      refine X_skip ?_
      try simp -implicitDefEqProofs only [go_sem]
      refine X_seq ?_
      refine X_block ?_
      refine X_sr (lx_ok γ) ?_
      obtain ⟨x5, f2, h⟩ := bindE h
      obtain ⟨f3, f4⟩ := ixL_nat f2
      have f5 : (0 : Int) ≤ (i2 : Int) := Int.natCast_nonneg _
      simp -implicitDefEqProofs only [go_sem, seval, f1, hi2, hq, f3, f4, f5]
      refine X_seq ?_
      refine X_sr (lx_ok γ) ?_
      obtain ⟨x6, f6, h⟩ := bindE h
      simp -implicitDefEqProofs only [go_sem, seval, f1, hi2, hq]
      refine callV_eq (portolanref04_within_ok γ _  f6) rfl rfl ?_
      simp -implicitDefEqProofs only [go_sem, seval, f1, hi2, hq]
      cases f7 : x6
      ·rw [if_neg (nF f7)] at h
       refine X_cond (lx_ok γ) ?_
       simp -implicitDefEqProofs only [go_sem, seval, f1, hi2, f7, hq]
       refine X_sr (lx_ok γ) ?_
       simp -implicitDefEqProofs only [go_sem, seval, f1, hi2, f7, hq]
       obtain rfl := sI h
       have h := hr2 _ (ho2 (fun _ hs => nomatch hs))
       obtain rfl := sI h
       refine X_ret ?_
       simp -implicitDefEqProofs only [go_sem, seval, f1, hi2, f7, hq]
       exact Rt.mv0 (BaseR.refl hob) (by simp) (vS)
      ·rw [if_pos f7] at h
       refine X_cond (lx_ok γ) ?_
       simp -implicitDefEqProofs only [go_sem, seval, f1, hi2, f7, hq]
       refine X_skip ?_
       try simp -implicitDefEqProofs only [go_sem]
       refine X_sr (lx_ok γ) ?_
       simp -implicitDefEqProofs only [go_sem, seval, f1, hi2, f7, hq]
       refine X_jq (J := fun as1 ob1 => portolanref04_Func.k3 = some o2 ∧ [(1, V.ref ob.length 0), (5, vint .i64 (i2 : Int))] = as1 ∧ ob ++ [some (O.box [v0_0, v0_1, vint .i64 a0.Params, vint .i64 a0.Result, v0_4])] = ob1) ?_ ?_
       ·rintro as1 ob1 ⟨h, rfl, rfl⟩
        rw [portolanref04_Func.k3] at h
        simp -implicitDefEqProofs only [go_sem, seval, f1, hi2, f7, hq]
        refine X_reg (lx_ok γ) ?_
        obtain rfl := sI h
        simp -implicitDefEqProofs only [go_sem, seval, f1, hi2, f7, hq]
        refine kR_in rfl ?_ ⟨rfl, rfl⟩
        exact To.mv [(0, 0)] (BaseR.refl hob) (by simp) (by decide) (by simp only [go_sem]; exact ⟨VM.refA (j := 0) (t := 0) rfl, VM.eqv (by rw [hw2]) (by simp)⟩) ⟨⟨_, rfl, OM.box _ _ ⟨VM.self (by simpa using Bd.of_rdK hv0_0), VM.self (by simpa using Bd.of_rdK hv0_1), vS, vS, VM.self (by simpa using Bd.of_rdK hv0_4), trivial⟩⟩, trivial⟩
       ·refine X_block ?_
        obtain ⟨lr3, hl3, hk3, hr3⟩ := aft2 h
        refine X_forN hl3 (fun (i3 : Nat) (s : Unit) as1 ob1 => [(1, V.ref ob.length 0), (5, vint .i64 (i2 : Int)), (6, V.tr (.sl 7 false (List.map e_Ins x5.Code))), (7, vint .i64 (i3 : Int))] = as1 ∧ ob ++ [some (O.box [v0_0, v0_1, vint .i64 a0.Params, vint .i64 a0.Result, v0_4])] = ob1) ⟨_, _, ?_, rfl, rfl⟩ ?_ ?_
        ·exact To.mv [(0, 0)] (BaseR.refl hob) (by simp) (by decide) (by simp only [go_sem]; exact ⟨VM.refA (j := 0) (t := 0) rfl, vS, vS, VM.eqv (by simp) (by simp)⟩) ⟨⟨_, rfl, OM.box _ _ ⟨VM.self (by simpa using Bd.of_rdK hv0_0), VM.self (by simpa using Bd.of_rdK hv0_1), vS, vS, VM.self (by simpa using Bd.of_rdK hv0_4), trivial⟩⟩, trivial⟩
        ·rintro i3 _ o3 hi3 hw3 h ho3 as1 ob1 ⟨rfl, rfl⟩
         rw [portolanref04_Func.b3] at h
         refine X_seq ?_
         refine X_sr (lx_ok γ) ?_
         simp -implicitDefEqProofs only [go_sem, seval, f1, hi2, f7, hi3, hq]
         refine X_cond (lx_ok γ) ?_
         simp -implicitDefEqProofs only [go_sem, seval, f1, hi2, f7, hi3, hq]
         refine X_skip ?_
         try simp -implicitDefEqProofs only [go_sem]
         refine X_seq ?_
         refine X_block ?_
         refine X_sr (lx_ok γ) ?_
         obtain ⟨x8, f8, h⟩ := bindE h
         obtain ⟨f9, f10⟩ := ixL_nat f8
         have f11 : (0 : Int) ≤ (i3 : Int) := Int.natCast_nonneg _
         obtain ⟨x9, f12, h⟩ := bindE h
         simp -implicitDefEqProofs only [go_sem, seval, f1, hi2, f7, hi3, hq, f9, f10, f11]
         refine callV_eq (portolanref04_Last_ok γ _  f12) rfl rfl ?_
         simp -implicitDefEqProofs only [go_sem, seval, f1, hi2, f7, hi3, hq, f9, f10, f11]
         cases f13 : x9 == ((i3 : Int) == w64 ((List.length x5.Code : Int) - 1))
         ·rw [if_neg (nF f13)] at h
          refine X_cond (lx_ok γ) ?_
          simp -implicitDefEqProofs only [go_sem, seval, f1, hi2, f7, hi3, f13, hq, f9, f10, f11]
          refine X_sr (lx_ok γ) ?_
          simp -implicitDefEqProofs only [go_sem, seval, f1, hi2, f7, hi3, f13, hq]
          obtain rfl := sI h
          have h := hr3 _ (ho3 (fun _ hs => nomatch hs))
          obtain rfl := sI h
          have h := hr2 _ (ho2 (fun _ hs => nomatch hs))
          obtain rfl := sI h
          refine X_ret ?_
          simp -implicitDefEqProofs only [go_sem, seval, f1, hi2, f7, hi3, f13, hq]
          exact Rt.mv0 (BaseR.refl hob) (by simp) (vS)
         ·rw [if_pos f13] at h
          refine X_cond (lx_ok γ) ?_
          simp -implicitDefEqProofs only [go_sem, seval, f1, hi2, f7, hi3, f13, hq, f9, f10, f11]
          refine X_skip ?_
          try simp -implicitDefEqProofs only [go_sem]
          refine X_reg (lx_ok γ) ?_
          obtain rfl := sI h
          simp -implicitDefEqProofs only [go_sem, seval, f1, hi2, f7, hi3, f13, hq]
          refine kR_in rfl ?_ ⟨rfl, rfl⟩
          exact To.mv [(0, 0)] (BaseR.refl hob) (by simp) (by decide) (by simp only [go_sem]; exact ⟨VM.refA (j := 0) (t := 0) rfl, vS, vS, VM.eqv (by rw [hw3]) (by simp)⟩) ⟨⟨_, rfl, OM.box _ _ ⟨VM.self (by simpa using Bd.of_rdK hv0_0), VM.self (by simpa using Bd.of_rdK hv0_1), vS, vS, VM.self (by simpa using Bd.of_rdK hv0_4), trivial⟩⟩, trivial⟩
        ·rintro i3 _ hi3 hn3 as1 ob1 ⟨rfl, rfl⟩
         refine X_seq ?_
         refine X_sr (lx_ok γ) ?_
         simp -implicitDefEqProofs only [go_sem, seval, f1, hi2, f7, hi3, hq]
         refine X_cond (lx_ok γ) ?_
         simp -implicitDefEqProofs only [go_sem, seval, f1, hi2, f7, hi3, hq]
         have h := hk3 _ (.inl hn3)
         refine X_exit ?_
         try simp -implicitDefEqProofs only [go_sem, ↓reduceIte, Nat.reduceEqDiff, reduceCtorEq]
         refine kJ_in ?_ ⟨h, rfl, rfl⟩
         exact To.mv [(0, 0)] (BaseR.refl hob) (by simp) (by decide) (by simp only [go_sem]; exact ⟨VM.refA (j := 0) (t := 0) rfl, vS⟩) ⟨⟨_, rfl, OM.box _ _ ⟨VM.self (by simpa using Bd.of_rdK hv0_0), VM.self (by simpa using Bd.of_rdK hv0_1), vS, vS, VM.self (by simpa using Bd.of_rdK hv0_4), trivial⟩⟩, trivial⟩
     ·rintro i2 _ hi2 hn2 as1 ob1 ⟨rfl, rfl⟩
      refine X_seq ?_
      refine X_sr (lx_ok γ) ?_
      simp -implicitDefEqProofs only [go_sem, seval, f1, hi2, hq]
      refine X_cond (lx_ok γ) ?_
      simp -implicitDefEqProofs only [go_sem, seval, f1, hi2, hq]
      have h := hk2 _ (.inl hn2)
      refine X_exit ?_
      try simp -implicitDefEqProofs only [go_sem, ↓reduceIte, Nat.reduceEqDiff, reduceCtorEq]
      refine kJ_in ?_ ⟨h, rfl, rfl⟩
      exact To.mv0 (BaseR.refl hob) (by simp) trivial
   ·refine X_block ?_
    obtain ⟨lr1, hl1, hk1, hr1⟩ := aft2 h
    refine X_forN hl1 (fun (i1 : Nat) (s : Unit) as1 ob1 => [(1, V.ref ob.length 0), (3, vint .i64 (List.length a0.Kinds : Int)), (4, vint .i64 (i1 : Int))] = as1 ∧ ob ++ [some (O.box [v0_0, v0_1, vint .i64 a0.Params, vint .i64 a0.Result, v0_4])] = ob1) ⟨_, _, ?_, rfl, rfl⟩ ?_ ?_
    ·exact To.mv [(0, 0)] (BaseR.refl hob) (by simp) (by decide) (by simp only [go_sem]; exact ⟨VM.refA (j := 0) (t := 0) rfl, vS, VM.eqv (by simp) (by simp)⟩) ⟨⟨_, rfl, OM.box _ _ ⟨VM.self (by simpa using Bd.of_rdK hv0_0), VM.self (by simpa using Bd.of_rdK hv0_1), vS, vS, VM.self (by simpa using Bd.of_rdK hv0_4), trivial⟩⟩, trivial⟩
    ·rintro i1 _ o1 hi1 hw1 h ho1 as1 ob1 ⟨rfl, rfl⟩
     rw [portolanref04_Func.b1] at h
     refine X_seq ?_
     refine X_sr (lx_ok γ) ?_
     simp -implicitDefEqProofs only [go_sem, seval, f1, hi1, hq]
     refine X_cond (lx_ok γ) ?_
     simp -implicitDefEqProofs only [go_sem, seval, f1, hi1, hq]
     refine X_skip ?_
     try simp -implicitDefEqProofs only [go_sem]
     refine X_seq ?_
     refine X_block ?_
     refine X_seq ?_
     refine X_jq (J := fun as1 ob1 => portolanref04_Func.j2 a0 i1 = some o1 ∧ [(1, V.ref ob.length 0), (3, vint .i64 (List.length a0.Kinds : Int)), (4, vint .i64 (i1 : Int))] = as1 ∧ ob ++ [some (O.box [v0_0, v0_1, vint .i64 a0.Params, vint .i64 a0.Result, v0_4])] = ob1) ?_ ?_
     ·rintro as1 ob1 ⟨h, rfl, rfl⟩
      rw [portolanref04_Func.j2] at h
      simp -implicitDefEqProofs only [go_sem, seval, f1, hi1, hq]
      refine X_seq ?_
      refine X_sr (lx_ok γ) ?_
      obtain ⟨x10, f14, h⟩ := bindE h
      obtain ⟨f15, f16⟩ := ixL_nat f14
      have f17 : (0 : Int) ≤ (i1 : Int) := Int.natCast_nonneg _
      simp -implicitDefEqProofs only [go_sem, seval, f1, hi1, hq, f15, f16, f17]
      cases f18 : (x10 != 2)
      ·rw [if_neg (nF f18)] at h
       refine X_cond (lx_ok γ) ?_
       simp -implicitDefEqProofs only [go_sem, seval, f1, hi1, f18, hq, f15, f16, f17]
       refine X_skip ?_
       try simp -implicitDefEqProofs only [go_sem]
       refine X_seq ?_
       refine X_drawn (lx_ok γ) [[], [0], [], [0, 1, 2], [0, 1, 2, 3], [], [5], [0, 1, 2, 3, 4, 5, 6], [0, 1, 2, 3, 4, 5, 6, 7], [0, 1, 2, 3, 4, 5, 6, 7, 8], [0, 1, 2, 3, 4, 5, 6, 7, 8, 9], [0, 1, 2, 3, 4, 5, 6, 7, 8, 9, 10], [0, 1, 2, 3, 4, 5, 6, 7, 8, 9], [0, 1, 2, 3, 4, 5, 6, 7, 8, 9, 12], [0, 1, 2, 3, 4, 5, 6, 7, 8, 9], [0, 1, 2, 3, 4, 5, 6, 7, 8, 9, 12, 13, 14], [0, 1, 2, 3, 4, 5, 6, 7, 8, 9, 12, 13, 14, 15], [0, 1, 2, 3, 4, 5, 6, 7, 8, 9, 10, 11, 12, 13, 14, 15, 16], [0, 1, 2, 3, 4, 5, 6, 7, 8, 9, 10, 11, 12, 13, 14, 15, 16, 17], [0, 1, 2, 3, 4, 5, 6, 7, 8, 9, 10, 11, 12, 13, 14, 15, 16, 17, 18], [0, 1, 2, 3, 4, 5, 6, 7, 8, 9, 10, 11, 12, 13, 14, 15, 16, 17, 18, 19]] (fun i => match i with | _ => false) (by kernel_rfl) ?_
       obtain ⟨x11, f19, h⟩ := bindE h
       obtain ⟨f20, f21⟩ := ixL_nat f19
       have f22 : (0 : Int) ≤ (i1 : Int) := Int.natCast_nonneg _
       obtain ⟨x12, f23, h⟩ := bindE h
       try simp -implicitDefEqProofs only [go_sem, seval, f1, hi1, f18, hq, f20, f21, f22, cmpr, List.getD_cons_zero, List.getD_cons_succ, List.contains_cons, List.contains_nil, Nat.reduceBEq, Bool.false_or, Bool.or_false, Bool.true_or, Bool.or_true, beq_self_eq_true]
       refine callV_eq (portolanref04_within_ok γ _  f23) rfl rfl ?_
       cases f24 : x12
       ·rw [if_neg (nF f24)] at h
        try simp -implicitDefEqProofs only [go_sem, seval, f1, hi1, f18, f24, hq, f20, f21, f22, cmpr, List.getD_cons_zero, List.getD_cons_succ, List.contains_cons, List.contains_nil, Nat.reduceBEq, Bool.false_or, Bool.or_false, Bool.true_or, Bool.or_true, beq_self_eq_true]
        refine X_condT (lx_ok γ) rfl ?_
        refine X_sr (lx_ok γ) ?_
        simp -implicitDefEqProofs only [go_sem, seval, f1, hi1, f18, f24, hq]
        obtain rfl := sI h
        have h := hr1 _ (ho1 (fun _ hs => nomatch hs))
        obtain rfl := sI h
        refine X_ret ?_
        simp -implicitDefEqProofs only [go_sem, seval, f1, hi1, f18, f24, hq]
        exact Rt.mv0 (BaseR.refl hob) (by simp) (vS)
       ·rw [if_pos f24] at h
        obtain ⟨x13, f25, h⟩ := bindE h
        obtain ⟨f26, f27, f28⟩ := ixL_some f25
        try simp only [Int.toNat_natCast, Int.reduceToNat] at f28
        try simp -implicitDefEqProofs only [go_sem, seval, f1, hi1, f18, f24, hq, f20, f21, f22, f26, f27, f28, cmpr, List.getD_cons_zero, List.getD_cons_succ, List.contains_cons, List.contains_nil, Nat.reduceBEq, Bool.false_or, Bool.or_false, Bool.true_or, Bool.or_true, beq_self_eq_true]
        cases f29 : (x13 != 1)
        ·rw [if_neg (nF f29)] at h
         refine X_cond (lx_ok γ) ?_
         simp -implicitDefEqProofs only [go_sem, seval, f1, hi1, f18, f24, f29, hq, f20, f21, f22, f26, f27, f28]
         refine X_skip ?_
         try simp -implicitDefEqProofs only [go_sem]
         refine X_reg (lx_ok γ) ?_
         obtain rfl := sI h
         simp -implicitDefEqProofs only [go_sem, seval, f1, hi1, f18, f24, f29, hq]
         refine kR_in rfl ?_ ⟨rfl, rfl⟩
         exact To.mv [(0, 0)] (BaseR.refl hob) (by simp) (by decide) (by simp only [go_sem]; exact ⟨VM.refA (j := 0) (t := 0) rfl, vS, VM.eqv (by rw [hw1]) (by simp)⟩) ⟨⟨_, rfl, OM.box _ _ ⟨VM.self (by simpa using Bd.of_rdK hv0_0), VM.self (by simpa using Bd.of_rdK hv0_1), vS, vS, VM.self (by simpa using Bd.of_rdK hv0_4), trivial⟩⟩, trivial⟩
        ·rw [if_pos f29] at h
         refine X_cond (lx_ok γ) ?_
         simp -implicitDefEqProofs only [go_sem, seval, f1, hi1, f18, f24, f29, hq, f20, f21, f22, f26, f27, f28]
         refine X_sr (lx_ok γ) ?_
         simp -implicitDefEqProofs only [go_sem, seval, f1, hi1, f18, f24, f29, hq]
         obtain rfl := sI h
         have h := hr1 _ (ho1 (fun _ hs => nomatch hs))
         obtain rfl := sI h
         refine X_ret ?_
         simp -implicitDefEqProofs only [go_sem, seval, f1, hi1, f18, f24, f29, hq]
         exact Rt.mv0 (BaseR.refl hob) (by simp) (vS)
      ·rw [if_pos f18] at h
       refine X_cond (lx_ok γ) ?_
       simp -implicitDefEqProofs only [go_sem, seval, f1, hi1, f18, hq, f15, f16, f17]
       refine X_seq ?_
       refine X_sr (lx_ok γ) ?_
       obtain ⟨x14, f30, h⟩ := bindE h
       obtain ⟨f31, f32⟩ := ixL_nat f30
       have f33 : (0 : Int) ≤ (i1 : Int) := Int.natCast_nonneg _
       simp -implicitDefEqProofs only [go_sem, seval, f1, hi1, f18, hq, f31, f32, f33]
       cases f34 : (x14 != (-1))
       ·rw [if_neg (nF f34)] at h
        refine X_cond (lx_ok γ) ?_
        simp -implicitDefEqProofs only [go_sem, seval, f1, hi1, f18, f34, hq, f31, f32, f33]
        refine X_skip ?_
        try simp -implicitDefEqProofs only [go_sem]
        refine X_exit ?_
        try simp -implicitDefEqProofs only [go_sem, ↓reduceIte, Nat.reduceEqDiff, reduceCtorEq]
        refine X_reg (lx_ok γ) ?_
        obtain rfl := sI h
        simp -implicitDefEqProofs only [go_sem, seval, f1, hi1, f18, f34, hq]
        refine kR_in rfl ?_ ⟨rfl, rfl⟩
        exact To.mv [(0, 0)] (BaseR.refl hob) (by simp) (by decide) (by simp only [go_sem]; exact ⟨VM.refA (j := 0) (t := 0) rfl, vS, VM.eqv (by rw [hw1]) (by simp)⟩) ⟨⟨_, rfl, OM.box _ _ ⟨VM.self (by simpa using Bd.of_rdK hv0_0), VM.self (by simpa using Bd.of_rdK hv0_1), vS, vS, VM.self (by simpa using Bd.of_rdK hv0_4), trivial⟩⟩, trivial⟩
       ·rw [if_pos f34] at h
        refine X_cond (lx_ok γ) ?_
        simp -implicitDefEqProofs only [go_sem, seval, f1, hi1, f18, f34, hq, f31, f32, f33]
        refine X_sr (lx_ok γ) ?_
        simp -implicitDefEqProofs only [go_sem, seval, f1, hi1, f18, f34, hq]
        obtain rfl := sI h
        have h := hr1 _ (ho1 (fun _ hs => nomatch hs))
        obtain rfl := sI h
        refine X_ret ?_
        simp -implicitDefEqProofs only [go_sem, seval, f1, hi1, f18, f34, hq]
        exact Rt.mv0 (BaseR.refl hob) (by simp) (vS)
     ·refine X_sr (lx_ok γ) ?_
      obtain ⟨x15, f35, h⟩ := bindE h
      obtain ⟨f36, f37⟩ := ixL_nat f35
      have f38 : (0 : Int) ≤ (i1 : Int) := Int.natCast_nonneg _
      obtain ⟨x16, f39, h⟩ := bindE h
      simp -implicitDefEqProofs only [go_sem, seval, f1, hi1, hq, f36, f37, f38]
      refine callV_eq (portolanref04_within_ok γ _  f39) rfl rfl ?_
      cases f40 : x16
      ·rw [if_neg (nF f40)] at h
       simp -implicitDefEqProofs only [go_sem, seval, f1, hi1, f40, hq, f36, f37, f38]
       refine X_condT (lx_ok γ) rfl ?_
       refine X_sr (lx_ok γ) ?_
       simp -implicitDefEqProofs only [go_sem, seval, f1, hi1, f40, hq]
       obtain rfl := sI h
       have h := hr1 _ (ho1 (fun _ hs => nomatch hs))
       obtain rfl := sI h
       refine X_ret ?_
       simp -implicitDefEqProofs only [go_sem, seval, f1, hi1, f40, hq]
       exact Rt.mv0 (BaseR.refl hob) (by simp) (vS)
      ·rw [if_pos f40] at h
       cases f41 : decide ((i1 : Int) < a0.Params)
       ·rw [if_neg (nF f41)] at h
        simp -implicitDefEqProofs only [go_sem, seval, f1, hi1, f40, f41, hq, f36, f37, f38]
        refine X_condF (lx_ok γ) rfl ?_
        refine X_skip ?_
        try simp -implicitDefEqProofs only [go_sem]
        refine kJ_in ?_ ⟨h, rfl, rfl⟩
        exact To.mv [(0, 0)] (BaseR.refl hob) (by simp) (by decide) (by simp only [go_sem]; exact ⟨VM.refA (j := 0) (t := 0) rfl, vS, vS⟩) ⟨⟨_, rfl, OM.box _ _ ⟨VM.self (by simpa using Bd.of_rdK hv0_0), VM.self (by simpa using Bd.of_rdK hv0_1), vS, vS, VM.self (by simpa using Bd.of_rdK hv0_4), trivial⟩⟩, trivial⟩
       ·rw [if_pos f41] at h
        simp -implicitDefEqProofs only [go_sem, seval, f1, hi1, f40, f41, hq, f36, f37, f38]
        cases f42 : (x15 == 2)
        ·rw [if_neg (nF f42)] at h
         refine X_cond (lx_ok γ) ?_
         simp -implicitDefEqProofs only [go_sem, seval, f1, hi1, f40, f41, f42, hq, f36, f37, f38]
         refine X_skip ?_
         try simp -implicitDefEqProofs only [go_sem]
         refine kJ_in ?_ ⟨h, rfl, rfl⟩
         exact To.mv [(0, 0)] (BaseR.refl hob) (by simp) (by decide) (by simp only [go_sem]; exact ⟨VM.refA (j := 0) (t := 0) rfl, vS, vS⟩) ⟨⟨_, rfl, OM.box _ _ ⟨VM.self (by simpa using Bd.of_rdK hv0_0), VM.self (by simpa using Bd.of_rdK hv0_1), vS, vS, VM.self (by simpa using Bd.of_rdK hv0_4), trivial⟩⟩, trivial⟩
        ·rw [if_pos f42] at h
         refine X_cond (lx_ok γ) ?_
         simp -implicitDefEqProofs only [go_sem, seval, f1, hi1, f40, f41, f42, hq, f36, f37, f38]
         refine X_sr (lx_ok γ) ?_
         simp -implicitDefEqProofs only [go_sem, seval, f1, hi1, f40, f41, f42, hq]
         obtain rfl := sI h
         have h := hr1 _ (ho1 (fun _ hs => nomatch hs))
         obtain rfl := sI h
         refine X_ret ?_
         simp -implicitDefEqProofs only [go_sem, seval, f1, hi1, f40, f41, f42, hq]
         exact Rt.mv0 (BaseR.refl hob) (by simp) (vS)
    ·rintro i1 _ hi1 hn1 as1 ob1 ⟨rfl, rfl⟩
     refine X_seq ?_
     refine X_sr (lx_ok γ) ?_
     simp -implicitDefEqProofs only [go_sem, seval, f1, hi1, hq]
     refine X_cond (lx_ok γ) ?_
     simp -implicitDefEqProofs only [go_sem, seval, f1, hi1, hq]
     have h := hk1 _ (.inl hn1)
     refine X_exit ?_
     try simp -implicitDefEqProofs only [go_sem, ↓reduceIte, Nat.reduceEqDiff, reduceCtorEq]
     refine kJ_in ?_ ⟨h, rfl, rfl⟩
     exact To.mv [(0, 0)] (BaseR.refl hob) (by simp) (by decide) (by simp only [go_sem]; exact VM.refA (j := 0) (t := 0) rfl) ⟨⟨_, rfl, OM.box _ _ ⟨VM.self (by simpa using Bd.of_rdK hv0_0), VM.self (by simpa using Bd.of_rdK hv0_1), vS, vS, VM.self (by simpa using Bd.of_rdK hv0_4), trivial⟩⟩, trivial⟩
  ·rw [if_pos f1] at h
   refine X_cond (lx_ok γ) ?_
   simp -implicitDefEqProofs only [go_sem, seval, f1, hq]
   refine X_sr (lx_ok γ) ?_
   simp -implicitDefEqProofs only [go_sem, seval, f1, hq]
   obtain rfl := sI h
   refine X_ret ?_
   simp -implicitDefEqProofs only [go_sem, seval, f1, hq]
   exact Rt.mv0 (BaseR.refl hob) (by simp) (vS)
 ·refine X_reg (lx_ok γ) ?_
  cases f43 : decide (48 < (List.length a0.Kinds : Int))
  ·rw [if_neg (nF f43)] at h
   cases f44 : ((List.length a0.Base : Int) != (List.length a0.Kinds : Int))
   ·rw [if_neg (nF f44)] at h
    obtain ⟨x17, f45, h⟩ := bindE h
    simp -implicitDefEqProofs only [go_sem, seval, f43, f44, hq]
    refine callV_eq (portolanref04_within_ok γ _  f45) rfl rfl ?_
    cases f46 : x17
    ·rw [if_neg (nF f46)] at h
     simp -implicitDefEqProofs only [go_sem, seval, f43, f44, f46, hq]
     refine kJ_in ?_ ⟨true, h, rfl, rfl⟩
     exact To.mv [(0, 0)] (BaseR.refl hob) (by simp) (by decide) (by simp only [go_sem]; exact ⟨VM.refA (j := 0) (t := 0) rfl, vS, vS⟩) ⟨⟨_, rfl, OM.box _ _ ⟨VM.self (by simpa using Bd.of_rdK hv0_0), VM.self (by simpa using Bd.of_rdK hv0_1), vS, vS, VM.self (by simpa using Bd.of_rdK hv0_4), trivial⟩⟩, trivial⟩
    ·rw [if_pos f46] at h
     obtain ⟨x18, f47, h⟩ := bindE h
     simp -implicitDefEqProofs only [go_sem, seval, f43, f44, f46, hq]
     refine callV_eq (portolanref04_within_ok γ _  f47) rfl rfl ?_
     cases f48 : x18
     ·rw [if_neg (nF f48)] at h
      simp -implicitDefEqProofs only [go_sem, seval, f43, f44, f46, f48, hq]
      refine kJ_in ?_ ⟨true, h, rfl, rfl⟩
      exact To.mv [(0, 0)] (BaseR.refl hob) (by simp) (by decide) (by simp only [go_sem]; exact ⟨VM.refA (j := 0) (t := 0) rfl, vS, vS⟩) ⟨⟨_, rfl, OM.box _ _ ⟨VM.self (by simpa using Bd.of_rdK hv0_0), VM.self (by simpa using Bd.of_rdK hv0_1), vS, vS, VM.self (by simpa using Bd.of_rdK hv0_4), trivial⟩⟩, trivial⟩
     ·rw [if_pos f48] at h
      obtain ⟨x19, f49, h⟩ := bindE h
      simp -implicitDefEqProofs only [go_sem, seval, f43, f44, f46, f48, hq]
      refine callV_eq (portolanref04_within_ok γ _  f49) rfl rfl ?_
      simp -implicitDefEqProofs only [go_sem, seval, f43, f44, f46, f48, hq]
      refine kJ_in ?_ ⟨(!x19), h, rfl, rfl⟩
      exact To.mv [(0, 0)] (BaseR.refl hob) (by simp) (by decide) (by simp only [go_sem]; exact ⟨VM.refA (j := 0) (t := 0) rfl, vS, vS⟩) ⟨⟨_, rfl, OM.box _ _ ⟨VM.self (by simpa using Bd.of_rdK hv0_0), VM.self (by simpa using Bd.of_rdK hv0_1), vS, vS, VM.self (by simpa using Bd.of_rdK hv0_4), trivial⟩⟩, trivial⟩
   ·rw [if_pos f44] at h
    simp -implicitDefEqProofs only [go_sem, seval, f43, f44, hq]
    refine kJ_in ?_ ⟨true, h, rfl, rfl⟩
    exact To.mv [(0, 0)] (BaseR.refl hob) (by simp) (by decide) (by simp only [go_sem]; exact ⟨VM.refA (j := 0) (t := 0) rfl, vS, vS⟩) ⟨⟨_, rfl, OM.box _ _ ⟨VM.self (by simpa using Bd.of_rdK hv0_0), VM.self (by simpa using Bd.of_rdK hv0_1), vS, vS, VM.self (by simpa using Bd.of_rdK hv0_4), trivial⟩⟩, trivial⟩
  ·rw [if_pos f43] at h
   simp -implicitDefEqProofs only [go_sem, seval, f43, hq]
   refine kJ_in ?_ ⟨true, h, rfl, rfl⟩
   exact To.mv [(0, 0)] (BaseR.refl hob) (by simp) (by decide) (by simp only [go_sem]; exact ⟨VM.refA (j := 0) (t := 0) rfl, vS, vS⟩) ⟨⟨_, rfl, OM.box _ _ ⟨VM.self (by simpa using Bd.of_rdK hv0_0), VM.self (by simpa using Bd.of_rdK hv0_1), vS, vS, VM.self (by simpa using Bd.of_rdK hv0_4), trivial⟩⟩, trivial⟩
end Go.Pf
end
section
set_option maxRecDepth 100000
namespace Go.Pf
open Go Go.Ab Go.Pp Go.Proofs Go.Proofs.S08
attribute [local go_sem] Lxτ Lxγ gam0 gam1 Int.toNat_natCast List.append_eq List.cons_append List.nil_append tau3 tau4 tau22 tau24 tau25 tau27 tau33 tau35 tau36 tau38 eI eB eS e_Ins e_Block e_Func e_Prog e_kind_state eL_Intu64
set_option maxHeartbeats 1000000 in
theorem portolanref04_Check_ok (γ : GT) (ob : OT) {a0 : Prog} {v0_0 : V} (hv0_0 : rdK (getO ob) 5 v0_0 = some (List.map e_Func a0.Funcs)) {r : Int} (h : portolanref04_Check a0 = some r) :
  Valid (Lx γ) 8 [V.agg [v0_0]] ob (vint .i64 r) ob := by
 refine valid_X (lx_ok γ) (fn := Tryd.f8) (rs := [.tmp 2]) Tryd.func8 (by kernel_rfl) rfl rfl Tryd.ntmps8 rfl (by simp) fun hb hob => ?_
 have hq := rd4 hv0_0
 rw [portolanref04_Check] at h
 refine X_sr (lx_ok γ) ?_
 simp -implicitDefEqProofs only [go_sem, seval, hq]
 refine X_seq ?_
 refine X_seq ?_
 refine X_jq (J := fun as1 ob1 => ∃ (x2 : Bool), portolanref04_Check.j1 a0 x2 = some r ∧ [(1, V.ref ob.length 0), (27, vbool x2)] = as1 ∧ ob ++ [some (O.box [v0_0])] = ob1) ?_ ?_
 ·rintro as1 ob1 ⟨x2, h, rfl, rfl⟩
  rw [portolanref04_Check.j1] at h
  simp -implicitDefEqProofs only [go_sem, seval, hq]
  cases f1 : x2
  ·rw [if_neg (nF f1)] at h
   refine X_cond (lx_ok γ) ?_
   simp -implicitDefEqProofs only [go_sem, seval, f1, hq]
   refine X_skip ?_
   try simp -implicitDefEqProofs only [go_sem]
   refine X_seq ?_
   refine X_sr (lx_ok γ) ?_
   simp -implicitDefEqProofs only [go_sem, seval, f1, hq]
   refine X_jq (J := fun as1 ob1 => portolanref04_Check.k1 = some r ∧ [] = as1 ∧ ob = ob1) ?_ ?_
   ·rintro as1 ob1 ⟨h, rfl, rfl⟩
    rw [portolanref04_Check.k1] at h
    simp -implicitDefEqProofs only [go_sem, seval, f1, hq]
    refine X_sr (lx_ok γ) ?_
    simp -implicitDefEqProofs only [go_sem, seval, f1, hq]
    obtain rfl := sI h
    refine X_ret ?_
    simp -implicitDefEqProofs only [go_sem, seval, f1, hq]
    exact Rt.mv1 (BaseR.refl hob) (by simp) (vS)
   ·refine X_block ?_
    obtain ⟨lr1, hl1, hk1, hr1⟩ := aft2 h
    refine X_forN hl1 (fun (i1 : Nat) (s : Unit) as1 ob1 => [(1, V.ref ob.length 0), (3, vint .i64 (i1 : Int))] = as1 ∧ ob ++ [some (O.box [v0_0])] = ob1) ⟨_, _, ?_, rfl, rfl⟩ ?_ ?_
    ·exact To.mv [(0, 0)] (BaseR.refl hob) (by simp) (by decide) (by simp only [go_sem]; exact ⟨VM.refA (j := 0) (t := 0) rfl, VM.eqv (by simp) (by simp)⟩) ⟨⟨_, rfl, OM.box _ _ ⟨VM.self (by simpa using Bd.of_rdK hv0_0), trivial⟩⟩, trivial⟩
    ·rintro i1 _ o1 hi1 hw1 h ho1 as1 ob1 ⟨rfl, rfl⟩
     rw [portolanref04_Check.b1] at h
     refine X_seq ?_
     refine X_sr (lx_ok γ) ?_
     simp -implicitDefEqProofs only [go_sem, seval, f1, hi1, hq]
     refine X_cond (lx_ok γ) ?_
     simp -implicitDefEqProofs only [go_sem, seval, f1, hi1, hq]
     refine X_skip ?_
     try simp -implicitDefEqProofs only [go_sem]
     refine X_seq ?_
     refine X_block ?_
     refine X_sr (lx_ok γ) ?_
     obtain ⟨x4, f2, h⟩ := bindE h
     obtain ⟨f3, f4⟩ := ixL_nat f2
     have f5 : (0 : Int) ≤ (i1 : Int) := Int.natCast_nonneg _
     simp -implicitDefEqProofs only [go_sem, seval, f1, hi1, hq, f3, f4, f5]
     refine X_seq ?_
     refine X_sr (lx_ok γ) ?_
     obtain ⟨x5, f6, h⟩ := bindE h
     simp -implicitDefEqProofs only [go_sem, seval, f1, hi1, hq]
     refine callV_eq (portolanref04_Func_ok γ _ (by simp -implicitDefEqProofs only [go_sem, seval, f1, hi1, hq]; try rfl) (by simp -implicitDefEqProofs only [go_sem, seval, f1, hi1, hq]; try rfl) (by simp -implicitDefEqProofs only [go_sem, seval, f1, hi1, hq]; try rfl) f6) rfl rfl ?_
     simp -implicitDefEqProofs only [go_sem, seval, f1, hi1, hq]
     cases f7 : x5
     ·rw [if_neg (nF f7)] at h
      refine X_cond (lx_ok γ) ?_
      simp -implicitDefEqProofs only [go_sem, seval, f1, hi1, f7, hq]
      refine X_sr (lx_ok γ) ?_
      simp -implicitDefEqProofs only [go_sem, seval, f1, hi1, f7, hq]
      obtain rfl := sI h
      have h := hr1 _ (ho1 (fun _ hs => nomatch hs))
      obtain rfl := sI h
      refine X_ret ?_
      simp -implicitDefEqProofs only [go_sem, seval, f1, hi1, f7, hq]
      exact Rt.mv0 (BaseR.refl hob) (by simp) (vS)
     ·rw [if_pos f7] at h
      refine X_cond (lx_ok γ) ?_
      simp -implicitDefEqProofs only [go_sem, seval, f1, hi1, f7, hq]
      refine X_skip ?_
      try simp -implicitDefEqProofs only [go_sem]
      refine X_sr (lx_ok γ) ?_
      simp -implicitDefEqProofs only [go_sem, seval, f1, hi1, f7, hq]
      refine X_jq (J := fun as1 ob1 => portolanref04_Check.k2 = some o1 ∧ [(1, V.ref ob.length 0), (3, vint .i64 (i1 : Int))] = as1 ∧ ob ++ [some (O.box [v0_0])] = ob1) ?_ ?_
      ·rintro as1 ob1 ⟨h, rfl, rfl⟩
       rw [portolanref04_Check.k2] at h
       simp -implicitDefEqProofs only [go_sem, seval, f1, hi1, f7, hq]
       refine X_reg (lx_ok γ) ?_
       obtain rfl := sI h
       simp -implicitDefEqProofs only [go_sem, seval, f1, hi1, f7, hq]
       refine kR_in rfl ?_ ⟨rfl, rfl⟩
       exact To.mv [(0, 0)] (BaseR.refl hob) (by simp) (by decide) (by simp only [go_sem]; exact ⟨VM.refA (j := 0) (t := 0) rfl, VM.eqv (by rw [hw1]) (by simp)⟩) ⟨⟨_, rfl, OM.box _ _ ⟨VM.self (by simpa using Bd.of_rdK hv0_0), trivial⟩⟩, trivial⟩
      ·refine X_block ?_
       obtain ⟨lr2, hl2, hk2, hr2⟩ := aft2 h
       refine X_forN hl2 (fun (i2 : Nat) (s : Unit) as1 ob1 => [(1, V.ref ob.length 0), (3, vint .i64 (i1 : Int)), (4, V.ref (ob.length + 1) 0), (5, vint .i64 (i2 : Int))] = as1 ∧ ob ++ [some (O.box [v0_0]), some (O.box [V.tr (.sl 1 false (List.map (eI .i64) x4.Kinds)), V.tr (.sl 1 false (List.map (eI .i64) x4.Base)), vint .i64 x4.Params, vint .i64 x4.Result, V.tr (.sl 1 false (List.map e_Block x4.Blocks))])] = ob1) ⟨_, _, ?_, rfl, rfl⟩ ?_ ?_
       ·exact To.mv [(0, 0), (1, 0)] (BaseR.refl hob) (by simp) (by decide) (by simp only [go_sem]; exact ⟨VM.refA (j := 0) (t := 0) rfl, vS, VM.refA (j := 1) (t := 1) rfl, VM.eqv (by simp) (by simp)⟩) ⟨⟨_, rfl, OM.box _ _ ⟨VM.self (by simpa using Bd.of_rdK hv0_0), trivial⟩⟩, ⟨_, rfl, OM.box _ _ ⟨vS, vS, vS, vS, vS, trivial⟩⟩, trivial⟩
       ·rintro i2 _ o2 hi2 hw2 h ho2 as1 ob1 ⟨rfl, rfl⟩
        rw [portolanref04_Check.b2] at h
        refine X_seq ?_
        refine X_sr (lx_ok γ) ?_
        simp -implicitDefEqProofs only [go_sem, seval, f1, hi1, f7, hi2, hq]
        refine X_cond (lx_ok γ) ?_
        simp -implicitDefEqProofs only [go_sem, seval, f1, hi1, f7, hi2, hq]
        refine X_skip ?_
        try simp -implicitDefEqProofs only [go_sem]
        refine X_seq ?_
        refine X_block ?_
        refine X_sr (lx_ok γ) ?_
        simp -implicitDefEqProofs only [go_sem, seval, f1, hi1, f7, hi2, hq]
        refine X_jq (J := fun as1 ob1 => portolanref04_Check.k3 = some o2 ∧ [(1, V.ref ob.length 0), (3, vint .i64 (i1 : Int)), (4, V.ref (ob.length + 1) 0), (5, vint .i64 (i2 : Int))] = as1 ∧ ob ++ [some (O.box [v0_0]), some (O.box [V.tr (.sl 1 false (List.map (eI .i64) x4.Kinds)), V.tr (.sl 1 false (List.map (eI .i64) x4.Base)), vint .i64 x4.Params, vint .i64 x4.Result, V.tr (.sl 1 false (List.map e_Block x4.Blocks))])] = ob1) ?_ ?_
        ·rintro as1 ob1 ⟨h, rfl, rfl⟩
         rw [portolanref04_Check.k3] at h
         simp -implicitDefEqProofs only [go_sem, seval, f1, hi1, f7, hi2, hq]
         refine X_reg (lx_ok γ) ?_
         obtain rfl := sI h
         simp -implicitDefEqProofs only [go_sem, seval, f1, hi1, f7, hi2, hq]
         refine kR_in rfl ?_ ⟨rfl, rfl⟩
         exact To.mv [(0, 0), (1, 0)] (BaseR.refl hob) (by simp) (by decide) (by simp only [go_sem]; exact ⟨VM.refA (j := 0) (t := 0) rfl, vS, VM.refA (j := 1) (t := 1) rfl, VM.eqv (by rw [hw2]) (by simp)⟩) ⟨⟨_, rfl, OM.box _ _ ⟨VM.self (by simpa using Bd.of_rdK hv0_0), trivial⟩⟩, ⟨_, rfl, OM.box _ _ ⟨vS, vS, vS, vS, vS, trivial⟩⟩, trivial⟩
        ·refine X_block ?_
         obtain ⟨lr3, hl3, hk3, hr3⟩ := aft2 h
         refine X_while hl3 (fun (s : Int) as1 ob1 => [(1, V.ref ob.length 0), (3, vint .i64 (i1 : Int)), (4, V.ref (ob.length + 1) 0), (5, vint .i64 (i2 : Int)), (6, vint .i64 s)] = as1 ∧ ob ++ [some (O.box [v0_0]), some (O.box [V.tr (.sl 1 false (List.map (eI .i64) x4.Kinds)), V.tr (.sl 1 false (List.map (eI .i64) x4.Base)), vint .i64 x4.Params, vint .i64 x4.Result, V.tr (.sl 1 false (List.map e_Block x4.Blocks))])] = ob1) ⟨_, _, ?_, rfl, rfl⟩ ?_
         ·exact To.mv [(0, 0), (1, 0)] (BaseR.refl hob) (by simp) (by decide) (by simp only [go_sem]; exact ⟨VM.refA (j := 0) (t := 0) rfl, vS, VM.refA (j := 1) (t := 1) rfl, vS, vS⟩) ⟨⟨_, rfl, OM.box _ _ ⟨VM.self (by simpa using Bd.of_rdK hv0_0), trivial⟩⟩, ⟨_, rfl, OM.box _ _ ⟨vS, vS, vS, vS, vS, trivial⟩⟩, trivial⟩
         ·rintro x7 o3 h ho3 as1 ob1 ⟨rfl, rfl⟩
          rw [portolanref04_Check.b3] at h
          refine X_seq ?_
          refine X_sr (lx_ok γ) ?_
          obtain ⟨x8, f8, h⟩ := bindE h
          obtain ⟨f9, f10⟩ := ixL_nat f8
          have f11 : (0 : Int) ≤ (i2 : Int) := Int.natCast_nonneg _
          simp -implicitDefEqProofs only [go_sem, seval, f1, hi1, f7, hi2, hq, f9, f10, f11]
          cases f12 : decide (x7 < (List.length x8.Code : Int))
          ·rw [if_neg (nF f12)] at h
           refine X_cond (lx_ok γ) ?_
           simp -implicitDefEqProofs only [go_sem, seval, f1, hi1, f7, hi2, f12, hq, f9, f10, f11]
           obtain rfl := sI h
           have h := hk3 _ (.inr (ho3 (fun _ hs => nomatch hs)))
           refine X_exit ?_
           try simp -implicitDefEqProofs only [go_sem, ↓reduceIte, Nat.reduceEqDiff, reduceCtorEq]
           refine kJ_in ?_ ⟨h, rfl, rfl⟩
           exact To.mv [(0, 0), (1, 0)] (BaseR.refl hob) (by simp) (by decide) (by simp only [go_sem]; exact ⟨VM.refA (j := 0) (t := 0) rfl, vS, VM.refA (j := 1) (t := 1) rfl, vS⟩) ⟨⟨_, rfl, OM.box _ _ ⟨VM.self (by simpa using Bd.of_rdK hv0_0), trivial⟩⟩, ⟨_, rfl, OM.box _ _ ⟨vS, vS, vS, vS, vS, trivial⟩⟩, trivial⟩
          ·rw [if_pos f12] at h
           refine X_cond (lx_ok γ) ?_
           simp -implicitDefEqProofs only [go_sem, seval, f1, hi1, f7, hi2, f12, hq, f9, f10, f11]
           refine X_skip ?_
           try simp -implicitDefEqProofs only [go_sem]
           refine X_seq ?_
           refine X_block ?_
           refine X_seq ?_
           refine X_drawn (lx_ok γ) [[], [], [], [2], [], [2, 3, 4], [2, 3, 4, 5], [2, 3, 4, 5, 6], [], [2, 3, 4, 5, 6, 7, 8], [2, 3, 4, 5, 6, 7, 8, 9], [0, 1, 2, 3, 4, 5, 6, 7, 8, 9, 10], [0, 1, 2, 3, 4, 5, 6, 7, 8, 9, 10, 11]] (fun i => match i with | _ => false) (by kernel_rfl) ?_
           obtain ⟨x9, f13, h⟩ := bindE h
           obtain ⟨f14, f15, f16⟩ := ixL_some f13
           try simp only [Int.toNat_natCast, Int.reduceToNat] at f16
           obtain ⟨x10, f17, h⟩ := bindE h
           try simp -implicitDefEqProofs only [go_sem, seval, f1, hi1, f7, hi2, f12, hq, f9, f10, f11, f14, f15, f16, cmpr, List.getD_cons_zero, List.getD_cons_succ, List.contains_cons, List.contains_nil, Nat.reduceBEq, Bool.false_or, Bool.or_false, Bool.true_or, Bool.or_true, beq_self_eq_true]
           refine callV_eq (portolanref04_Ins_ok γ _ (by first | exact rdK_app hv0_0 | exact hv0_0) (by simp -implicitDefEqProofs only [go_sem, seval, f1, hi1, f7, hi2, f12, hq, f9, f10, f11, f14, f15, f16]; try rfl) f17) rfl rfl ?_
           try simp -implicitDefEqProofs only [go_sem, seval, f1, hi1, f7, hi2, f12, hq, f9, f10, f11, f14, f15, f16, cmpr, List.getD_cons_zero, List.getD_cons_succ, List.contains_cons, List.contains_nil, Nat.reduceBEq, Bool.false_or, Bool.or_false, Bool.true_or, Bool.or_true, beq_self_eq_true]
           cases f18 : x10
           ·rw [if_neg (nF f18)] at h
            refine X_cond (lx_ok γ) ?_
            simp -implicitDefEqProofs only [go_sem, seval, f1, hi1, f7, hi2, f12, f18, hq, f9, f10, f11, f14, f15, f16]
            refine X_sr (lx_ok γ) ?_
            simp -implicitDefEqProofs only [go_sem, seval, f1, hi1, f7, hi2, f12, f18, hq]
            obtain rfl := sI h
            have h := hr3 _ (ho3 (fun _ hs => nomatch hs))
            obtain rfl := sI h
            have h := hr2 _ (ho2 (fun _ hs => nomatch hs))
            obtain rfl := sI h
            have h := hr1 _ (ho1 (fun _ hs => nomatch hs))
            obtain rfl := sI h
            refine X_ret ?_
            simp -implicitDefEqProofs only [go_sem, seval, f1, hi1, f7, hi2, f12, f18, hq]
            exact Rt.mv0 (BaseR.refl hob) (by simp) (vS)
           ·rw [if_pos f18] at h
            refine X_cond (lx_ok γ) ?_
            simp -implicitDefEqProofs only [go_sem, seval, f1, hi1, f7, hi2, f12, f18, hq, f9, f10, f11, f14, f15, f16]
            refine X_skip ?_
            try simp -implicitDefEqProofs only [go_sem]
            refine X_reg (lx_ok γ) ?_
            obtain rfl := sI h
            simp -implicitDefEqProofs only [go_sem, seval, f1, hi1, f7, hi2, f12, f18, hq]
            refine kR_in rfl ?_ ⟨rfl, rfl⟩
            exact To.mv [(0, 0), (1, 0)] (BaseR.refl hob) (by simp) (by decide) (by simp only [go_sem]; exact ⟨VM.refA (j := 0) (t := 0) rfl, vS, VM.refA (j := 1) (t := 1) rfl, vS, vS⟩) ⟨⟨_, rfl, OM.box _ _ ⟨VM.self (by simpa using Bd.of_rdK hv0_0), trivial⟩⟩, ⟨_, rfl, OM.box _ _ ⟨vS, vS, vS, vS, vS, trivial⟩⟩, trivial⟩
       ·rintro i2 _ hi2 hn2 as1 ob1 ⟨rfl, rfl⟩
        refine X_seq ?_
        refine X_sr (lx_ok γ) ?_
        simp -implicitDefEqProofs only [go_sem, seval, f1, hi1, f7, hi2, hq]
        refine X_cond (lx_ok γ) ?_
        simp -implicitDefEqProofs only [go_sem, seval, f1, hi1, f7, hi2, hq]
        have h := hk2 _ (.inl hn2)
        refine X_exit ?_
        try simp -implicitDefEqProofs only [go_sem, ↓reduceIte, Nat.reduceEqDiff, reduceCtorEq]
        refine kJ_in ?_ ⟨h, rfl, rfl⟩
        exact To.mv [(0, 0)] (BaseR.refl hob) (by simp) (by decide) (by simp only [go_sem]; exact ⟨VM.refA (j := 0) (t := 0) rfl, vS⟩) ⟨⟨_, rfl, OM.box _ _ ⟨VM.self (by simpa using Bd.of_rdK hv0_0), trivial⟩⟩, trivial⟩
    ·rintro i1 _ hi1 hn1 as1 ob1 ⟨rfl, rfl⟩
     refine X_seq ?_
     refine X_sr (lx_ok γ) ?_
     simp -implicitDefEqProofs only [go_sem, seval, f1, hi1, hq]
     refine X_cond (lx_ok γ) ?_
     simp -implicitDefEqProofs only [go_sem, seval, f1, hi1, hq]
     have h := hk1 _ (.inl hn1)
     refine X_exit ?_
     try simp -implicitDefEqProofs only [go_sem, ↓reduceIte, Nat.reduceEqDiff, reduceCtorEq]
     refine kJ_in ?_ ⟨h, rfl, rfl⟩
     exact To.mv0 (BaseR.refl hob) (by simp) trivial
  ·rw [if_pos f1] at h
   refine X_cond (lx_ok γ) ?_
   simp -implicitDefEqProofs only [go_sem, seval, f1, hq]
   refine X_sr (lx_ok γ) ?_
   simp -implicitDefEqProofs only [go_sem, seval, f1, hq]
   obtain rfl := sI h
   refine X_ret ?_
   simp -implicitDefEqProofs only [go_sem, seval, f1, hq]
   exact Rt.mv0 (BaseR.refl hob) (by simp) (vS)
 ·refine X_reg (lx_ok γ) ?_
  obtain ⟨x11, f19, h⟩ := bindE h
  simp -implicitDefEqProofs only [go_sem, seval, hq]
  refine callV_eq (portolanref04_within_ok γ _  f19) rfl rfl ?_
  cases f20 : x11
  ·rw [if_neg (nF f20)] at h
   simp -implicitDefEqProofs only [go_sem, seval, f20, hq]
   refine kJ_in ?_ ⟨true, h, rfl, rfl⟩
   exact To.mv [(0, 0)] (BaseR.refl hob) (by simp) (by decide) (by simp only [go_sem]; exact ⟨VM.refA (j := 0) (t := 0) rfl, vS⟩) ⟨⟨_, rfl, OM.box _ _ ⟨VM.self (by simpa using Bd.of_rdK hv0_0), trivial⟩⟩, trivial⟩
  ·rw [if_pos f20] at h
   obtain ⟨x12, f21, h⟩ := bindE h
   obtain ⟨f22, f23, f24⟩ := ixL_some f21
   try simp only [Int.toNat_natCast, Int.reduceToNat] at f24
   cases f25 : (x12.Params != 0)
   ·rw [if_neg (nF f25)] at h
    simp -implicitDefEqProofs only [go_sem, seval, f20, f25, hq, f23, f24]
    refine kJ_in ?_ ⟨(x12.Result != 0), h, rfl, rfl⟩
    exact To.mv [(0, 0)] (BaseR.refl hob) (by simp) (by decide) (by simp only [go_sem]; exact ⟨VM.refA (j := 0) (t := 0) rfl, vS⟩) ⟨⟨_, rfl, OM.box _ _ ⟨VM.self (by simpa using Bd.of_rdK hv0_0), trivial⟩⟩, trivial⟩
   ·rw [if_pos f25] at h
    simp -implicitDefEqProofs only [go_sem, seval, f20, f25, hq, f23, f24]
    refine kJ_in ?_ ⟨true, h, rfl, rfl⟩
    exact To.mv [(0, 0)] (BaseR.refl hob) (by simp) (by decide) (by simp only [go_sem]; exact ⟨VM.refA (j := 0) (t := 0) rfl, vS⟩) ⟨⟨_, rfl, OM.box _ _ ⟨VM.self (by simpa using Bd.of_rdK hv0_0), trivial⟩⟩, trivial⟩
end Go.Pf
end
section
set_option maxRecDepth 100000
namespace Go.Pf
open Go Go.Ab Go.Pp Go.Proofs Go.Proofs.S08
attribute [local go_sem] Lxτ Lxγ gam0 gam1 Int.toNat_natCast tau3 eI eB eS e_Ins e_Block e_Func e_Prog e_kind_state eL_Intu64
set_option maxHeartbeats 1000000 in
theorem portolanref08_signs_ok (γ : GT) (ob : OT) {a0 : Int} {r : ByteArray} (h : portolanref08_signs a0 = some r) :
  Valid (Lx γ) 26 [vint .i64 a0] ob (vstr r) ob := by
 refine valid_X (lx_ok γ) (fn := Tryd.f26) (rs := [.tmp 2]) Tryd.func26 (by kernel_rfl) rfl rfl Tryd.ntmps26 rfl (by simp) fun hb hob => ?_
 rw [portolanref08_signs] at h
 refine X_sr (lx_ok γ) ?_
 simp -implicitDefEqProofs only [go_sem, seval]
 refine X_seq ?_
 refine X_sr (lx_ok γ) ?_
 simp -implicitDefEqProofs only [go_sem, seval]
 refine X_block ?_
 refine X_sr (lx_ok γ) ?_
 simp -implicitDefEqProofs only [go_sem, seval]
 cases f1 : (a0 == 1)
 ·rw [if_neg (nF f1)] at h
  refine X_cond (lx_ok γ) ?_
  simp -implicitDefEqProofs only [go_sem, seval, f1]
  refine X_seq ?_
  refine X_jq (J := fun as1 ob1 => ∃ (x4 : Bool), portolanref08_signs.j1 a0 x4 = some r ∧ [(3, vint .i64 a0), (6, vbool x4)] = as1 ∧ ob = ob1) ?_ ?_
  ·rintro as1 ob1 ⟨x4, h, rfl, rfl⟩
   rw [portolanref08_signs.j1] at h
   simp -implicitDefEqProofs only [go_sem, seval, f1]
   cases f2 : x4
   ·rw [if_neg (nF f2)] at h
    refine X_cond (lx_ok γ) ?_
    simp -implicitDefEqProofs only [go_sem, seval, f1, f2]
    refine X_seq ?_
    refine X_jq (J := fun as1 ob1 => ∃ (x6 : Bool), portolanref08_signs.j2 a0 x6 = some r ∧ [(3, vint .i64 a0), (11, vbool x6)] = as1 ∧ ob = ob1) ?_ ?_
    ·rintro as1 ob1 ⟨x6, h, rfl, rfl⟩
     rw [portolanref08_signs.j2] at h
     simp -implicitDefEqProofs only [go_sem, seval, f1, f2]
     cases f3 : x6
     ·rw [if_neg (nF f3)] at h
      refine X_cond (lx_ok γ) ?_
      simp -implicitDefEqProofs only [go_sem, seval, f1, f2, f3]
      refine X_seq ?_
      refine X_jq (J := fun as1 ob1 => ∃ (x8 : Bool), portolanref08_signs.j3 a0 x8 = some r ∧ [(3, vint .i64 a0), (14, vbool x8)] = as1 ∧ ob = ob1) ?_ ?_
      ·rintro as1 ob1 ⟨x8, h, rfl, rfl⟩
       rw [portolanref08_signs.j3] at h
       simp -implicitDefEqProofs only [go_sem, seval, f1, f2, f3]
       cases f4 : x8
       ·rw [if_neg (nF f4)] at h
        refine X_cond (lx_ok γ) ?_
        simp -implicitDefEqProofs only [go_sem, seval, f1, f2, f3, f4]
        refine X_sr (lx_ok γ) ?_
        simp -implicitDefEqProofs only [go_sem, seval, f1, f2, f3, f4]
        cases f5 : (a0 == 9)
        ·rw [if_neg (nF f5)] at h
         refine X_cond (lx_ok γ) ?_
         simp -implicitDefEqProofs only [go_sem, seval, f1, f2, f3, f4, f5]
         refine X_seq ?_
         refine X_jq (J := fun as1 ob1 => ∃ (x10 : Bool), portolanref08_signs.j4 a0 x10 = some r ∧ [(3, vint .i64 a0), (19, vbool x10)] = as1 ∧ ob = ob1) ?_ ?_
         ·rintro as1 ob1 ⟨x10, h, rfl, rfl⟩
          rw [portolanref08_signs.j4] at h
          simp -implicitDefEqProofs only [go_sem, seval, f1, f2, f3, f4, f5]
          cases f6 : x10
          ·rw [if_neg (nF f6)] at h
           refine X_cond (lx_ok γ) ?_
           simp -implicitDefEqProofs only [go_sem, seval, f1, f2, f3, f4, f5, f6]
           refine X_sr (lx_ok γ) ?_
           simp -implicitDefEqProofs only [go_sem, seval, f1, f2, f3, f4, f5, f6]
           cases f7 : (a0 == 12)
           ·rw [if_neg (nF f7)] at h
            refine X_cond (lx_ok γ) ?_
            simp -implicitDefEqProofs only [go_sem, seval, f1, f2, f3, f4, f5, f6, f7]
            refine X_sr (lx_ok γ) ?_
            simp -implicitDefEqProofs only [go_sem, seval, f1, f2, f3, f4, f5, f6, f7]
            cases f8 : (a0 == 13)
            ·rw [if_neg (nF f8)] at h
             refine X_cond (lx_ok γ) ?_
             simp -implicitDefEqProofs only [go_sem, seval, f1, f2, f3, f4, f5, f6, f7, f8]
             refine X_sr (lx_ok γ) ?_
             simp -implicitDefEqProofs only [go_sem, seval, f1, f2, f3, f4, f5, f6, f7, f8]
             cases f9 : (a0 == 14)
             ·rw [if_neg (nF f9)] at h
              refine X_cond (lx_ok γ) ?_
              simp -implicitDefEqProofs only [go_sem, seval, f1, f2, f3, f4, f5, f6, f7, f8, f9]
              refine X_sr (lx_ok γ) ?_
              simp -implicitDefEqProofs only [go_sem, seval, f1, f2, f3, f4, f5, f6, f7, f8, f9]
              cases f10 : (a0 == 15)
              ·rw [if_neg (nF f10)] at h
               refine X_cond (lx_ok γ) ?_
               simp -implicitDefEqProofs only [go_sem, seval, f1, f2, f3, f4, f5, f6, f7, f8, f9, f10]
               refine X_sr (lx_ok γ) ?_
               simp -implicitDefEqProofs only [go_sem, seval, f1, f2, f3, f4, f5, f6, f7, f8, f9, f10]
               cases f11 : (a0 == 16)
               ·rw [if_neg (nF f11)] at h
                refine X_cond (lx_ok γ) ?_
                simp -implicitDefEqProofs only [go_sem, seval, f1, f2, f3, f4, f5, f6, f7, f8, f9, f10, f11]
                refine X_sr (lx_ok γ) ?_
                simp -implicitDefEqProofs only [go_sem, seval, f1, f2, f3, f4, f5, f6, f7, f8, f9, f10, f11]
                cases f12 : (a0 == 17)
                ·rw [if_neg (nF f12)] at h
                 refine X_cond (lx_ok γ) ?_
                 simp -implicitDefEqProofs only [go_sem, seval, f1, f2, f3, f4, f5, f6, f7, f8, f9, f10, f11, f12]
                 refine X_sr (lx_ok γ) ?_
                 simp -implicitDefEqProofs only [go_sem, seval, f1, f2, f3, f4, f5, f6, f7, f8, f9, f10, f11, f12]
                 cases f13 : (a0 == 18)
                 ·rw [if_neg (nF f13)] at h
                  refine X_cond (lx_ok γ) ?_
                  simp -implicitDefEqProofs only [go_sem, seval, f1, f2, f3, f4, f5, f6, f7, f8, f9, f10, f11, f12, f13]
                  refine X_skip ?_
                  try simp -implicitDefEqProofs only [go_sem]
                  refine X_sr (lx_ok γ) ?_
                  simp -implicitDefEqProofs only [go_sem, seval, f1, f2, f3, f4, f5, f6, f7, f8, f9, f10, f11, f12, f13]
                  obtain rfl := sI h
                  refine X_ret ?_
                  simp -implicitDefEqProofs only [go_sem, seval, f1, f2, f3, f4, f5, f6, f7, f8, f9, f10, f11, f12, f13]
                  exact Rt.mv1 (BaseR.refl hob) (by simp) (vS)
                 ·rw [if_pos f13] at h
                  refine X_cond (lx_ok γ) ?_
                  simp -implicitDefEqProofs only [go_sem, seval, f1, f2, f3, f4, f5, f6, f7, f8, f9, f10, f11, f12, f13]
                  refine X_sr (lx_ok γ) ?_
                  simp -implicitDefEqProofs only [go_sem, seval, f1, f2, f3, f4, f5, f6, f7, f8, f9, f10, f11, f12, f13]
                  obtain rfl := sI h
                  refine X_ret ?_
                  simp -implicitDefEqProofs only [go_sem, seval, f1, f2, f3, f4, f5, f6, f7, f8, f9, f10, f11, f12, f13]
                  exact Rt.mv1 (BaseR.refl hob) (by simp) (vS)
                ·rw [if_pos f12] at h
                 refine X_cond (lx_ok γ) ?_
                 simp -implicitDefEqProofs only [go_sem, seval, f1, f2, f3, f4, f5, f6, f7, f8, f9, f10, f11, f12]
                 refine X_sr (lx_ok γ) ?_
                 simp -implicitDefEqProofs only [go_sem, seval, f1, f2, f3, f4, f5, f6, f7, f8, f9, f10, f11, f12]
                 obtain rfl := sI h
                 refine X_ret ?_
                 simp -implicitDefEqProofs only [go_sem, seval, f1, f2, f3, f4, f5, f6, f7, f8, f9, f10, f11, f12]
                 exact Rt.mv1 (BaseR.refl hob) (by simp) (vS)
               ·rw [if_pos f11] at h
                refine X_cond (lx_ok γ) ?_
                simp -implicitDefEqProofs only [go_sem, seval, f1, f2, f3, f4, f5, f6, f7, f8, f9, f10, f11]
                refine X_sr (lx_ok γ) ?_
                simp -implicitDefEqProofs only [go_sem, seval, f1, f2, f3, f4, f5, f6, f7, f8, f9, f10, f11]
                obtain rfl := sI h
                refine X_ret ?_
                simp -implicitDefEqProofs only [go_sem, seval, f1, f2, f3, f4, f5, f6, f7, f8, f9, f10, f11]
                exact Rt.mv1 (BaseR.refl hob) (by simp) (vS)
              ·rw [if_pos f10] at h
               refine X_cond (lx_ok γ) ?_
               simp -implicitDefEqProofs only [go_sem, seval, f1, f2, f3, f4, f5, f6, f7, f8, f9, f10]
               refine X_sr (lx_ok γ) ?_
               simp -implicitDefEqProofs only [go_sem, seval, f1, f2, f3, f4, f5, f6, f7, f8, f9, f10]
               obtain rfl := sI h
               refine X_ret ?_
               simp -implicitDefEqProofs only [go_sem, seval, f1, f2, f3, f4, f5, f6, f7, f8, f9, f10]
               exact Rt.mv1 (BaseR.refl hob) (by simp) (vS)
             ·rw [if_pos f9] at h
              refine X_cond (lx_ok γ) ?_
              simp -implicitDefEqProofs only [go_sem, seval, f1, f2, f3, f4, f5, f6, f7, f8, f9]
              refine X_sr (lx_ok γ) ?_
              simp -implicitDefEqProofs only [go_sem, seval, f1, f2, f3, f4, f5, f6, f7, f8, f9]
              obtain rfl := sI h
              refine X_ret ?_
              simp -implicitDefEqProofs only [go_sem, seval, f1, f2, f3, f4, f5, f6, f7, f8, f9]
              exact Rt.mv1 (BaseR.refl hob) (by simp) (vS)
            ·rw [if_pos f8] at h
             refine X_cond (lx_ok γ) ?_
             simp -implicitDefEqProofs only [go_sem, seval, f1, f2, f3, f4, f5, f6, f7, f8]
             refine X_sr (lx_ok γ) ?_
             simp -implicitDefEqProofs only [go_sem, seval, f1, f2, f3, f4, f5, f6, f7, f8]
             obtain rfl := sI h
             refine X_ret ?_
             simp -implicitDefEqProofs only [go_sem, seval, f1, f2, f3, f4, f5, f6, f7, f8]
             exact Rt.mv1 (BaseR.refl hob) (by simp) (vS)
           ·rw [if_pos f7] at h
            refine X_cond (lx_ok γ) ?_
            simp -implicitDefEqProofs only [go_sem, seval, f1, f2, f3, f4, f5, f6, f7]
            refine X_sr (lx_ok γ) ?_
            simp -implicitDefEqProofs only [go_sem, seval, f1, f2, f3, f4, f5, f6, f7]
            obtain rfl := sI h
            refine X_ret ?_
            simp -implicitDefEqProofs only [go_sem, seval, f1, f2, f3, f4, f5, f6, f7]
            exact Rt.mv1 (BaseR.refl hob) (by simp) (vS)
          ·rw [if_pos f6] at h
           refine X_cond (lx_ok γ) ?_
           simp -implicitDefEqProofs only [go_sem, seval, f1, f2, f3, f4, f5, f6]
           refine X_sr (lx_ok γ) ?_
           simp -implicitDefEqProofs only [go_sem, seval, f1, f2, f3, f4, f5, f6]
           obtain rfl := sI h
           refine X_ret ?_
           simp -implicitDefEqProofs only [go_sem, seval, f1, f2, f3, f4, f5, f6]
           exact Rt.mv1 (BaseR.refl hob) (by simp) (vS)
         ·refine X_sr (lx_ok γ) ?_
          simp -implicitDefEqProofs only [go_sem, seval, f1, f2, f3, f4, f5]
          cases f14 : (a0 == 20)
          ·rw [if_neg (nF f14)] at h
           refine X_cond (lx_ok γ) ?_
           simp -implicitDefEqProofs only [go_sem, seval, f1, f2, f3, f4, f5, f14]
           refine X_reg (lx_ok γ) ?_
           simp -implicitDefEqProofs only [go_sem, seval, f1, f2, f3, f4, f5, f14]
           refine kJ_in ?_ ⟨(a0 == 22), h, rfl, rfl⟩
           exact To.mv1 (BaseR.refl hob) (by simp) (by simp only [go_sem]; exact ⟨vS, vS⟩)
          ·rw [if_pos f14] at h
           refine X_cond (lx_ok γ) ?_
           simp -implicitDefEqProofs only [go_sem, seval, f1, f2, f3, f4, f5, f14]
           refine X_skip ?_
           try simp -implicitDefEqProofs only [go_sem]
           refine kJ_in ?_ ⟨true, h, rfl, rfl⟩
           exact To.mv1 (BaseR.refl hob) (by simp) (by simp only [go_sem]; exact ⟨vS, vS⟩)
        ·rw [if_pos f5] at h
         refine X_cond (lx_ok γ) ?_
         simp -implicitDefEqProofs only [go_sem, seval, f1, f2, f3, f4, f5]
         refine X_sr (lx_ok γ) ?_
         simp -implicitDefEqProofs only [go_sem, seval, f1, f2, f3, f4, f5]
         obtain rfl := sI h
         refine X_ret ?_
         simp -implicitDefEqProofs only [go_sem, seval, f1, f2, f3, f4, f5]
         exact Rt.mv1 (BaseR.refl hob) (by simp) (vS)
       ·rw [if_pos f4] at h
        refine X_cond (lx_ok γ) ?_
        simp -implicitDefEqProofs only [go_sem, seval, f1, f2, f3, f4]
        refine X_sr (lx_ok γ) ?_
        simp -implicitDefEqProofs only [go_sem, seval, f1, f2, f3, f4]
        obtain rfl := sI h
        refine X_ret ?_
        simp -implicitDefEqProofs only [go_sem, seval, f1, f2, f3, f4]
        exact Rt.mv1 (BaseR.refl hob) (by simp) (vS)
      ·refine X_sr (lx_ok γ) ?_
       simp -implicitDefEqProofs only [go_sem, seval, f1, f2, f3]
       cases f15 : (a0 == 8)
       ·rw [if_neg (nF f15)] at h
        refine X_cond (lx_ok γ) ?_
        simp -implicitDefEqProofs only [go_sem, seval, f1, f2, f3, f15]
        refine X_reg (lx_ok γ) ?_
        simp -implicitDefEqProofs only [go_sem, seval, f1, f2, f3, f15]
        refine kJ_in ?_ ⟨(a0 == 11), h, rfl, rfl⟩
        exact To.mv1 (BaseR.refl hob) (by simp) (by simp only [go_sem]; exact ⟨vS, vS⟩)
       ·rw [if_pos f15] at h
        refine X_cond (lx_ok γ) ?_
        simp -implicitDefEqProofs only [go_sem, seval, f1, f2, f3, f15]
        refine X_skip ?_
        try simp -implicitDefEqProofs only [go_sem]
        refine kJ_in ?_ ⟨true, h, rfl, rfl⟩
        exact To.mv1 (BaseR.refl hob) (by simp) (by simp only [go_sem]; exact ⟨vS, vS⟩)
     ·rw [if_pos f3] at h
      refine X_cond (lx_ok γ) ?_
      simp -implicitDefEqProofs only [go_sem, seval, f1, f2, f3]
      refine X_sr (lx_ok γ) ?_
      simp -implicitDefEqProofs only [go_sem, seval, f1, f2, f3]
      obtain rfl := sI h
      refine X_ret ?_
      simp -implicitDefEqProofs only [go_sem, seval, f1, f2, f3]
      exact Rt.mv1 (BaseR.refl hob) (by simp) (vS)
    ·refine X_sr (lx_ok γ) ?_
     simp -implicitDefEqProofs only [go_sem, seval, f1, f2]
     cases f16 : (a0 == 7)
     ·rw [if_neg (nF f16)] at h
      refine X_cond (lx_ok γ) ?_
      simp -implicitDefEqProofs only [go_sem, seval, f1, f2, f16]
      refine X_reg (lx_ok γ) ?_
      simp -implicitDefEqProofs only [go_sem, seval, f1, f2, f16]
      refine kJ_in ?_ ⟨(a0 == 10), h, rfl, rfl⟩
      exact To.mv1 (BaseR.refl hob) (by simp) (by simp only [go_sem]; exact ⟨vS, vS⟩)
     ·rw [if_pos f16] at h
      refine X_cond (lx_ok γ) ?_
      simp -implicitDefEqProofs only [go_sem, seval, f1, f2, f16]
      refine X_skip ?_
      try simp -implicitDefEqProofs only [go_sem]
      refine kJ_in ?_ ⟨true, h, rfl, rfl⟩
      exact To.mv1 (BaseR.refl hob) (by simp) (by simp only [go_sem]; exact ⟨vS, vS⟩)
   ·rw [if_pos f2] at h
    refine X_cond (lx_ok γ) ?_
    simp -implicitDefEqProofs only [go_sem, seval, f1, f2]
    refine X_sr (lx_ok γ) ?_
    simp -implicitDefEqProofs only [go_sem, seval, f1, f2]
    obtain rfl := sI h
    refine X_ret ?_
    simp -implicitDefEqProofs only [go_sem, seval, f1, f2]
    exact Rt.mv1 (BaseR.refl hob) (by simp) (vS)
  ·refine X_sr (lx_ok γ) ?_
   simp -implicitDefEqProofs only [go_sem, seval, f1]
   cases f17 : (a0 == 3)
   ·rw [if_neg (nF f17)] at h
    refine X_cond (lx_ok γ) ?_
    simp -implicitDefEqProofs only [go_sem, seval, f1, f17]
    refine X_sr (lx_ok γ) ?_
    simp -implicitDefEqProofs only [go_sem, seval, f1, f17]
    cases f18 : (a0 == 4)
    ·rw [if_neg (nF f18)] at h
     refine X_cond (lx_ok γ) ?_
     simp -implicitDefEqProofs only [go_sem, seval, f1, f17, f18]
     refine X_sr (lx_ok γ) ?_
     simp -implicitDefEqProofs only [go_sem, seval, f1, f17, f18]
     cases f19 : (a0 == 5)
     ·rw [if_neg (nF f19)] at h
      refine X_cond (lx_ok γ) ?_
      simp -implicitDefEqProofs only [go_sem, seval, f1, f17, f18, f19]
      refine X_reg (lx_ok γ) ?_
      simp -implicitDefEqProofs only [go_sem, seval, f1, f17, f18, f19]
      refine kJ_in ?_ ⟨(a0 == 6), h, rfl, rfl⟩
      exact To.mv1 (BaseR.refl hob) (by simp) (by simp only [go_sem]; exact ⟨vS, vS⟩)
     ·rw [if_pos f19] at h
      refine X_cond (lx_ok γ) ?_
      simp -implicitDefEqProofs only [go_sem, seval, f1, f17, f18, f19]
      refine X_skip ?_
      try simp -implicitDefEqProofs only [go_sem]
      refine kJ_in ?_ ⟨true, h, rfl, rfl⟩
      exact To.mv1 (BaseR.refl hob) (by simp) (by simp only [go_sem]; exact ⟨vS, vS⟩)
    ·rw [if_pos f18] at h
     refine X_cond (lx_ok γ) ?_
     simp -implicitDefEqProofs only [go_sem, seval, f1, f17, f18]
     refine X_skip ?_
     try simp -implicitDefEqProofs only [go_sem]
     refine kJ_in ?_ ⟨true, h, rfl, rfl⟩
     exact To.mv1 (BaseR.refl hob) (by simp) (by simp only [go_sem]; exact ⟨vS, vS⟩)
   ·rw [if_pos f17] at h
    refine X_cond (lx_ok γ) ?_
    simp -implicitDefEqProofs only [go_sem, seval, f1, f17]
    refine X_skip ?_
    try simp -implicitDefEqProofs only [go_sem]
    refine kJ_in ?_ ⟨true, h, rfl, rfl⟩
    exact To.mv1 (BaseR.refl hob) (by simp) (by simp only [go_sem]; exact ⟨vS, vS⟩)
 ·rw [if_pos f1] at h
  refine X_cond (lx_ok γ) ?_
  simp -implicitDefEqProofs only [go_sem, seval, f1]
  refine X_sr (lx_ok γ) ?_
  simp -implicitDefEqProofs only [go_sem, seval, f1]
  obtain rfl := sI h
  refine X_ret ?_
  simp -implicitDefEqProofs only [go_sem, seval, f1]
  exact Rt.mv1 (BaseR.refl hob) (by simp) (vS)
end Go.Pf
end
section
set_option maxRecDepth 100000
namespace Go.Pf
open Go Go.Ab Go.Pp Go.Proofs Go.Proofs.S08
attribute [local go_sem] Lxτ Lxγ gam0 gam1 Int.toNat_natCast tau5 eI eB eS e_Ins e_Block e_Func e_Prog e_kind_state eL_Intu64
set_option maxHeartbeats 1000000 in
theorem portolanref08_map3_ok (γ : GT) (ob : OT) {a0 : Int} {r : Int} (h : portolanref08_map3 a0 = some r) :
  Valid (Lx γ) 37 [vint .u8 a0] ob (vint .i64 r) ob := by
 refine valid_X (lx_ok γ) (fn := Tryd.f37) (rs := [.tmp 2]) Tryd.func37 (by kernel_rfl) rfl rfl Tryd.ntmps37 rfl (by simp) fun hb hob => ?_
 rw [portolanref08_map3] at h
 refine X_sr (lx_ok γ) ?_
 simp -implicitDefEqProofs only [go_sem, seval]
 refine X_seq ?_
 refine X_sr (lx_ok γ) ?_
 simp -implicitDefEqProofs only [go_sem, seval]
 refine X_block ?_
 refine X_sr (lx_ok γ) ?_
 simp -implicitDefEqProofs only [go_sem, seval]
 cases f1 : (a0 == 105)
 ·rw [if_neg (nF f1)] at h
  refine X_cond (lx_ok γ) ?_
  simp -implicitDefEqProofs only [go_sem, seval, f1]
  refine X_sr (lx_ok γ) ?_
  simp -implicitDefEqProofs only [go_sem, seval, f1]
  cases f2 : (a0 == 114)
  ·rw [if_neg (nF f2)] at h
   refine X_cond (lx_ok γ) ?_
   simp -implicitDefEqProofs only [go_sem, seval, f1, f2]
   refine X_skip ?_
   try simp -implicitDefEqProofs only [go_sem]
   refine X_sr (lx_ok γ) ?_
   simp -implicitDefEqProofs only [go_sem, seval, f1, f2]
   obtain rfl := sI h
   refine X_ret ?_
   simp -implicitDefEqProofs only [go_sem, seval, f1, f2]
   exact Rt.mv1 (BaseR.refl hob) (by simp) (vS)
  ·rw [if_pos f2] at h
   refine X_cond (lx_ok γ) ?_
   simp -implicitDefEqProofs only [go_sem, seval, f1, f2]
   refine X_sr (lx_ok γ) ?_
   simp -implicitDefEqProofs only [go_sem, seval, f1, f2]
   obtain rfl := sI h
   refine X_ret ?_
   simp -implicitDefEqProofs only [go_sem, seval, f1, f2]
   exact Rt.mv1 (BaseR.refl hob) (by simp) (vS)
 ·rw [if_pos f1] at h
  refine X_cond (lx_ok γ) ?_
  simp -implicitDefEqProofs only [go_sem, seval, f1]
  refine X_sr (lx_ok γ) ?_
  simp -implicitDefEqProofs only [go_sem, seval, f1]
  obtain rfl := sI h
  refine X_ret ?_
  simp -implicitDefEqProofs only [go_sem, seval, f1]
  exact Rt.mv1 (BaseR.refl hob) (by simp) (vS)
end Go.Pf
end
section
set_option maxRecDepth 100000
namespace Go.Pf
open Go Go.Ab Go.Pp Go.Proofs Go.Proofs.S08
attribute [local go_sem] Lxτ Lxγ gam0 gam1 Int.toNat_natCast tau3 tau5 tau25 tau27 tau33 tau35 tau36 tau38 eI eB eS e_Ins e_Block e_Func e_Prog e_kind_state eL_Intu64
set_option maxHeartbeats 1000000 in
theorem portolanref08_is_ok (γ : GT) (ob : OT) {a0 : Func} {v0_0 : V} {v0_1 : V} {v0_4 : V} {a1 : Int} {a2 : Int} (hv0_0 : rdK (getO ob) 1 v0_0 = some (List.map (eI .i64) a0.Kinds)) (hv0_1 : rdK (getO ob) 1 v0_1 = some (List.map (eI .i64) a0.Base)) (hv0_4 : rdK (getO ob) 1 v0_4 = some (List.map e_Block a0.Blocks)) {r : Bool} (h : portolanref08_is a0 a1 a2 = some r) :
  Valid (Lx γ) 27 [V.agg [v0_0, v0_1, vint .i64 a0.Params, vint .i64 a0.Result, v0_4], vint .i64 a1, vint .u8 a2] ob (vbool r) ob := by
 refine valid_X (lx_ok γ) (fn := Tryd.f27) (rs := [.tmp 6]) Tryd.func27 (by kernel_rfl) rfl rfl Tryd.ntmps27 rfl (by simp) fun hb hob => ?_
 have hq := And.intro (rd4 hv0_0) (And.intro (rd4 hv0_1) (rd4 hv0_4))
 rw [portolanref08_is] at h
 refine X_sr (lx_ok γ) ?_
 simp -implicitDefEqProofs only [go_sem, seval, hq]
 refine X_seq ?_
 refine X_sr (lx_ok γ) ?_
 simp -implicitDefEqProofs only [go_sem, seval, hq]
 cases f1 : (a2 == 45)
 ·rw [if_neg (nF f1)] at h
  refine X_cond (lx_ok γ) ?_
  simp -implicitDefEqProofs only [go_sem, seval, f1, hq]
  refine X_skip ?_
  try simp -implicitDefEqProofs only [go_sem]
  refine X_seq ?_
  refine X_drawn (lx_ok γ) [[], [0], [0, 1], [0, 1, 2], [0, 1, 2], [0, 1, 2, 4], [0, 1, 2, 4, 5], [0, 1, 2, 3, 4, 5, 6], [0, 1, 2, 3, 4, 5, 6, 7], [0, 1, 2, 3, 4, 5, 6, 7, 8], [0, 1, 2, 3, 4, 5, 6, 7, 8, 9], [0, 1, 2, 3, 4, 5, 6, 7, 8, 9, 10], [0, 1, 2, 3, 4, 5, 6, 7, 8, 9], [0, 1, 2, 3, 4, 5, 6, 7, 8, 9, 10, 11, 12], [0, 1, 2, 3, 4, 5, 6, 7, 8, 9, 10, 11, 12, 13], [0, 1, 2, 3, 4, 5, 6, 7, 8, 9], [0, 1, 2, 3, 4, 5, 6, 7, 8, 9, 15], [0, 1, 2, 3, 4, 5, 6, 7, 8, 9, 10, 11, 12, 13, 14, 15, 16], [0, 1, 2, 3, 4, 5, 6, 7, 8, 9, 10, 11, 12, 13, 14, 15, 16, 17], [0, 1, 2, 3, 4, 5, 6, 7, 8, 9, 10, 11, 12, 13, 14, 15, 16, 17, 18]] (fun i => match i with | _ => false) (by kernel_rfl) ?_
  cases f2 : decide (0 ≤ a1)
  ·rw [if_neg (nF f2)] at h
   try simp -implicitDefEqProofs only [go_sem, seval, f1, f2, hq, cmpr, List.getD_cons_zero, List.getD_cons_succ, List.contains_cons, List.contains_nil, Nat.reduceBEq, Bool.false_or, Bool.or_false, Bool.true_or, Bool.or_true, beq_self_eq_true]
   obtain rfl := sI h
   refine X_ret ?_
   simp -implicitDefEqProofs only [go_sem, seval, f1, f2, hq]
   exact Rt.mv0 (BaseR.refl hob) (by simp) (vS)
  ·rw [if_pos f2] at h
   cases f3 : decide (a1 < (List.length a0.Kinds : Int))
   ·rw [if_neg (nF f3)] at h
    try simp -implicitDefEqProofs only [go_sem, seval, f1, f2, f3, hq, cmpr, List.getD_cons_zero, List.getD_cons_succ, List.contains_cons, List.contains_nil, Nat.reduceBEq, Bool.false_or, Bool.or_false, Bool.true_or, Bool.or_true, beq_self_eq_true]
    obtain rfl := sI h
    refine X_ret ?_
    simp -implicitDefEqProofs only [go_sem, seval, f1, f2, f3, hq]
    exact Rt.mv0 (BaseR.refl hob) (by simp) (vS)
   ·rw [if_pos f3] at h
    obtain ⟨x1, f4, h⟩ := bindE h
    obtain ⟨f5, f6, f7⟩ := ixL_some f4
    try simp only [Int.toNat_natCast, Int.reduceToNat] at f7
    obtain ⟨x2, f8, h⟩ := bindE h
    try simp -implicitDefEqProofs only [go_sem, seval, f1, f2, f3, hq, f5, f6, f7, cmpr, List.getD_cons_zero, List.getD_cons_succ, List.contains_cons, List.contains_nil, Nat.reduceBEq, Bool.false_or, Bool.or_false, Bool.true_or, Bool.or_true, beq_self_eq_true]
    refine callV_eq (portolanref08_map3_ok γ _  f8) rfl rfl ?_
    try simp -implicitDefEqProofs only [go_sem, seval, f1, f2, f3, hq, f5, f6, f7, cmpr, List.getD_cons_zero, List.getD_cons_succ, List.contains_cons, List.contains_nil, Nat.reduceBEq, Bool.false_or, Bool.or_false, Bool.true_or, Bool.or_true, beq_self_eq_true]
    obtain rfl := sI h
    refine X_ret ?_
    simp -implicitDefEqProofs only [go_sem, seval, f1, f2, f3, hq, f5, f6, f7]
    exact Rt.mv0 (BaseR.refl hob) (by simp) (vS)
 ·rw [if_pos f1] at h
  refine X_cond (lx_ok γ) ?_
  simp -implicitDefEqProofs only [go_sem, seval, f1, hq]
  refine X_sr (lx_ok γ) ?_
  simp -implicitDefEqProofs only [go_sem, seval, f1, hq]
  obtain rfl := sI h
  refine X_ret ?_
  simp -implicitDefEqProofs only [go_sem, seval, f1, hq]
  exact Rt.mv0 (BaseR.refl hob) (by simp) (vS)
end Go.Pf
end
section
set_option maxRecDepth 100000
namespace Go.Pf
open Go Go.Ab Go.Pp Go.Proofs Go.Proofs.S08
attribute [local go_sem] Lxτ Lxγ gam0 gam1 Int.toNat_natCast List.append_eq List.cons_append List.nil_append tau3 tau4 tau5 tau9 tau22 tau24 tau25 tau27 tau33 tau35 tau36 tau38 eI eB eS e_Ins e_Block e_Func e_Prog e_kind_state eL_Intu64
set_option maxHeartbeats 1000000 in
theorem portolanref08_Fits_ok (γ : GT) (ob : OT) {a0 : Prog} {v0_0 : V} {a1 : Int} {a2 : Ins} {v2_6 : V} (hv0_0 : rdK (getO ob) 5 v0_0 = some (List.map e_Func a0.Funcs)) (hv2_6 : rdK (getO ob) 1 v2_6 = some (List.map (eI .i64) a2.Args)) {r : Bool} (h : portolanref08_Fits a0 a1 a2 = some r) :
  Valid (Lx γ) 11 [V.agg [v0_0], vint .i64 a1, V.agg [vint .i64 a2.Op, vint .i64 a2.D, vint .i64 a2.A, vint .i64 a2.B, vint .i64 a2.N, vint .i64 a2.M, v2_6]] ob (vbool r) ob := by
 refine valid_X (lx_ok γ) (fn := Tryd.f11) (rs := [.tmp 6]) Tryd.func11 (by kernel_rfl) rfl rfl Tryd.ntmps11 rfl (by simp) fun hb hob => ?_
 have hq := And.intro (rd4 hv0_0) (rd4 hv2_6)
 rw [portolanref08_Fits] at h
 refine X_sr (lx_ok γ) ?_
 simp -implicitDefEqProofs only [go_sem, seval, hq]
 refine X_seq ?_
 refine X_seq ?_
 refine X_jq (J := fun as1 ob1 => ∃ (x2 : Bool), portolanref08_Fits.j1 a0 a1 a2 x2 = some r ∧ [(1, vint .i64 a1), (3, V.ref ob.length 0), (5, V.ref (ob.length + 1) 0), (19, vbool x2)] = as1 ∧ ob ++ [some (O.box [v0_0]), some (O.box [vint .i64 a2.Op, vint .i64 a2.D, vint .i64 a2.A, vint .i64 a2.B, vint .i64 a2.N, vint .i64 a2.M, v2_6])] = ob1) ?_ ?_
 ·rintro as1 ob1 ⟨x2, h, rfl, rfl⟩
  rw [portolanref08_Fits.j1] at h
  simp -implicitDefEqProofs only [go_sem, seval, hq]
  cases f1 : x2
  ·rw [if_neg (nF f1)] at h
   refine X_cond (lx_ok γ) ?_
   simp -implicitDefEqProofs only [go_sem, seval, f1, hq]
   refine X_skip ?_
   try simp -implicitDefEqProofs only [go_sem]
   refine X_sr (lx_ok γ) ?_
   obtain ⟨x3, f2, h⟩ := bindE h
   obtain ⟨f3, f4, f5⟩ := ixL_some f2
   try simp only [Int.toNat_natCast, Int.reduceToNat] at f5
   simp -implicitDefEqProofs only [go_sem, seval, f1, hq, f3, f4, f5]
   refine X_sr (lx_ok γ) ?_
   obtain ⟨x4, f6, h⟩ := bindE h
   simp -implicitDefEqProofs only [go_sem, seval, f1, hq]
   refine callV_eq (portolanref08_signs_ok γ _  f6) rfl rfl ?_
   simp -implicitDefEqProofs only [go_sem, seval, f1, hq]
   refine X_seq ?_
   refine X_seq ?_
   refine X_jq (J := fun as1 ob1 => ∃ (x6 : Bool), portolanref08_Fits.j2 a0 a2 x3 x6 = some r ∧ [(3, V.ref ob.length 0), (5, V.ref (ob.length + 1) 0), (7, V.ref (ob.length + 2) 0), (52, vbool x6)] = as1 ∧ ob ++ [some (O.box [v0_0]), some (O.box [vint .i64 a2.Op, vint .i64 a2.D, vint .i64 a2.A, vint .i64 a2.B, vint .i64 a2.N, vint .i64 a2.M, v2_6]), some (O.box [V.tr (.sl 1 false (List.map (eI .i64) x3.Kinds)), V.tr (.sl 1 false (List.map (eI .i64) x3.Base)), vint .i64 x3.Params, vint .i64 x3.Result, V.tr (.sl 1 false (List.map e_Block x3.Blocks))])] = ob1) ?_ ?_
   ·rintro as1 ob1 ⟨x6, h, rfl, rfl⟩
    rw [portolanref08_Fits.j2] at h
    simp -implicitDefEqProofs only [go_sem, seval, f1, hq]
    cases f7 : x6
    ·rw [if_neg (nF f7)] at h
     refine X_cond (lx_ok γ) ?_
     simp -implicitDefEqProofs only [go_sem, seval, f1, f7, hq]
     refine X_skip ?_
     try simp -implicitDefEqProofs only [go_sem]
     refine X_seq ?_
     refine X_sr (lx_ok γ) ?_
     simp -implicitDefEqProofs only [go_sem, seval, f1, f7, hq]
     refine X_block ?_
     refine X_sr (lx_ok γ) ?_
     simp -implicitDefEqProofs only [go_sem, seval, f1, f7, hq]
     cases f8 : (a2.Op == 2)
     ·rw [if_neg (nF f8)] at h
      refine X_cond (lx_ok γ) ?_
      simp -implicitDefEqProofs only [go_sem, seval, f1, f7, f8, hq]
      refine X_sr (lx_ok γ) ?_
      simp -implicitDefEqProofs only [go_sem, seval, f1, f7, f8, hq]
      cases f9 : (a2.Op == 15)
      ·rw [if_neg (nF f9)] at h
       refine X_cond (lx_ok γ) ?_
       simp -implicitDefEqProofs only [go_sem, seval, f1, f7, f8, f9, hq]
       refine X_sr (lx_ok γ) ?_
       simp -implicitDefEqProofs only [go_sem, seval, f1, f7, f8, f9, hq]
       cases f10 : (a2.Op == 16)
       ·rw [if_neg (nF f10)] at h
        refine X_cond (lx_ok γ) ?_
        simp -implicitDefEqProofs only [go_sem, seval, f1, f7, f8, f9, f10, hq]
        refine X_sr (lx_ok γ) ?_
        simp -implicitDefEqProofs only [go_sem, seval, f1, f7, f8, f9, f10, hq]
        cases f11 : (a2.Op == 23)
        ·rw [if_neg (nF f11)] at h
         refine X_cond (lx_ok γ) ?_
         simp -implicitDefEqProofs only [go_sem, seval, f1, f7, f8, f9, f10, f11, hq]
         refine X_sr (lx_ok γ) ?_
         simp -implicitDefEqProofs only [go_sem, seval, f1, f7, f8, f9, f10, f11, hq]
         cases f12 : (a2.Op == 19)
         ·rw [if_neg (nF f12)] at h
          refine X_cond (lx_ok γ) ?_
          simp -implicitDefEqProofs only [go_sem, seval, f1, f7, f8, f9, f10, f11, f12, hq]
          refine X_skip ?_
          try simp -implicitDefEqProofs only [go_sem]
          refine X_sr (lx_ok γ) ?_
          simp -implicitDefEqProofs only [go_sem, seval, f1, f7, f8, f9, f10, f11, f12, hq]
          obtain rfl := sI h
          refine X_ret ?_
          simp -implicitDefEqProofs only [go_sem, seval, f1, f7, f8, f9, f10, f11, f12, hq]
          exact Rt.mv0 (BaseR.refl hob) (by simp) (vS)
         ·rw [if_pos f12] at h
          refine X_cond (lx_ok γ) ?_
          simp -implicitDefEqProofs only [go_sem, seval, f1, f7, f8, f9, f10, f11, f12, hq]
          refine X_sr (lx_ok γ) ?_
          obtain ⟨x7, f13, h⟩ := bindE h
          obtain ⟨f14, f15, f16⟩ := ixL_some f13
          try simp only [Int.toNat_natCast, Int.reduceToNat] at f16
          simp -implicitDefEqProofs only [go_sem, seval, f1, f7, f8, f9, f10, f11, f12, hq, f14, f15, f16]
          refine X_seq ?_
          refine X_sr (lx_ok γ) ?_
          simp -implicitDefEqProofs only [go_sem, seval, f1, f7, f8, f9, f10, f11, f12, hq]
          refine X_jq (J := fun as1 ob1 => portolanref08_Fits.k1 a2 x3 x7 = some r ∧ [(5, V.ref ob.length 0), (7, V.ref (ob.length + 1) 0), (9, V.ref (ob.length + 2) 0)] = as1 ∧ ob ++ [some (O.box [vint .i64 a2.Op, vint .i64 a2.D, vint .i64 a2.A, vint .i64 a2.B, vint .i64 a2.N, vint .i64 a2.M, v2_6]), some (O.box [V.tr (.sl 1 false (List.map (eI .i64) x3.Kinds)), V.tr (.sl 1 false (List.map (eI .i64) x3.Base)), vint .i64 x3.Params, vint .i64 x3.Result, V.tr (.sl 1 false (List.map e_Block x3.Blocks))]), some (O.box [V.tr (.sl 1 false (List.map (eI .i64) x7.Kinds)), V.tr (.sl 1 false (List.map (eI .i64) x7.Base)), vint .i64 x7.Params, vint .i64 x7.Result, V.tr (.sl 1 false (List.map e_Block x7.Blocks))])] = ob1) ?_ ?_
          ·rintro as1 ob1 ⟨h, rfl, rfl⟩
           rw [portolanref08_Fits.k1] at h
           simp -implicitDefEqProofs only [go_sem, seval, f1, f7, f8, f9, f10, f11, f12, hq]
           refine X_seq ?_
           refine X_drawn (lx_ok γ) [[], [0], [], [2], [0, 1, 2, 3], [0, 1, 2, 3, 4], [], [6], [0, 1, 2, 3, 4, 5, 6, 7], [0, 1, 2, 3, 4, 5, 6, 7, 8]] (fun i => match i with | _ => false) (by kernel_rfl) ?_
           obtain ⟨x9, f17, h⟩ := bindE h
           obtain ⟨f18, f19, f20⟩ := ixL_some f17
           try simp only [Int.toNat_natCast, Int.reduceToNat] at f20
           try simp -implicitDefEqProofs only [go_sem, seval, f1, f7, f8, f9, f10, f11, f12, hq, f18, f19, f20, cmpr, List.getD_cons_zero, List.getD_cons_succ, List.contains_cons, List.contains_nil, Nat.reduceBEq, Bool.false_or, Bool.or_false, Bool.true_or, Bool.or_true, beq_self_eq_true]
           obtain rfl := sI h
           refine X_ret ?_
           simp -implicitDefEqProofs only [go_sem, seval, f1, f7, f8, f9, f10, f11, f12, hq, f18, f19, f20]
           exact Rt.mv0 (BaseR.refl hob) (by simp) (vS)
          ·refine X_block ?_
           obtain ⟨lr1, hl1, hk1, hr1⟩ := aft2 h
           refine X_forN hl1 (fun (i1 : Nat) (s : Unit) as1 ob1 => [(5, V.ref ob.length 0), (7, V.ref (ob.length + 1) 0), (9, V.ref (ob.length + 2) 0), (10, vint .i64 (i1 : Int))] = as1 ∧ ob ++ [some (O.box [vint .i64 a2.Op, vint .i64 a2.D, vint .i64 a2.A, vint .i64 a2.B, vint .i64 a2.N, vint .i64 a2.M, v2_6]), some (O.box [V.tr (.sl 1 false (List.map (eI .i64) x3.Kinds)), V.tr (.sl 1 false (List.map (eI .i64) x3.Base)), vint .i64 x3.Params, vint .i64 x3.Result, V.tr (.sl 1 false (List.map e_Block x3.Blocks))]), some (O.box [V.tr (.sl 1 false (List.map (eI .i64) x7.Kinds)), V.tr (.sl 1 false (List.map (eI .i64) x7.Base)), vint .i64 x7.Params, vint .i64 x7.Result, V.tr (.sl 1 false (List.map e_Block x7.Blocks))])] = ob1) ⟨_, _, ?_, rfl, rfl⟩ ?_ ?_
           ·exact To.mv [(1, 0), (2, 0), (3, 0)] (BaseR.refl hob) (by simp) (by decide) (by simp only [go_sem]; exact ⟨VM.refA (j := 1) (t := 0) rfl, VM.refA (j := 2) (t := 1) rfl, VM.refA (j := 3) (t := 2) rfl, VM.eqv (by simp) (by simp)⟩) ⟨⟨_, rfl, OM.box _ _ ⟨vS, vS, vS, vS, vS, vS, VM.self (by simpa using Bd.of_rdK hv2_6), trivial⟩⟩, ⟨_, rfl, OM.box _ _ ⟨vS, vS, vS, vS, vS, trivial⟩⟩, ⟨_, rfl, OM.box _ _ ⟨vS, vS, vS, vS, vS, trivial⟩⟩, trivial⟩
           ·rintro i1 _ o1 hi1 hw1 h ho1 as1 ob1 ⟨rfl, rfl⟩
            rw [portolanref08_Fits.b1] at h
            refine X_seq ?_
            refine X_sr (lx_ok γ) ?_
            simp -implicitDefEqProofs only [go_sem, seval, f1, f7, f8, f9, f10, f11, f12, hi1, hq]
            refine X_cond (lx_ok γ) ?_
            simp -implicitDefEqProofs only [go_sem, seval, f1, f7, f8, f9, f10, f11, f12, hi1, hq]
            refine X_skip ?_
            try simp -implicitDefEqProofs only [go_sem]
            refine X_seq ?_
            refine X_block ?_
            refine X_seq ?_
            refine X_drawn (lx_ok γ) [[], [0], [], [2], [], [2, 3, 4], [2, 3, 4, 5], [0, 1, 2, 3, 4, 5, 6], [0, 1, 2, 3, 4, 5, 6, 7], [], [9], [], [9, 10, 11], [9, 10, 11, 12], [0, 1, 2, 3, 4, 5, 6, 7, 8, 9, 10, 11, 12, 13]] (fun i => match i with | _ => false) (by kernel_rfl) ?_
            obtain ⟨x10, f21, h⟩ := bindE h
            obtain ⟨f22, f23⟩ := ixL_nat f21
            have f24 : (0 : Int) ≤ (i1 : Int) := Int.natCast_nonneg _
            obtain ⟨x11, f25, h⟩ := bindE h
            obtain ⟨f26, f27, f28⟩ := ixL_some f25
            try simp only [Int.toNat_natCast, Int.reduceToNat] at f28
            obtain ⟨x12, f29, h⟩ := bindE h
            obtain ⟨f30, f31⟩ := ixL_nat f29
            have f32 : (0 : Int) ≤ (i1 : Int) := Int.natCast_nonneg _
            try simp -implicitDefEqProofs only [go_sem, seval, f1, f7, f8, f9, f10, f11, f12, hi1, hq, f22, f23, f24, f26, f27, f28, f30, f31, f32, cmpr, List.getD_cons_zero, List.getD_cons_succ, List.contains_cons, List.contains_nil, Nat.reduceBEq, Bool.false_or, Bool.or_false, Bool.true_or, Bool.or_true, beq_self_eq_true]
            cases f33 : (x11 != x12)
            ·rw [if_neg (nF f33)] at h
             refine X_cond (lx_ok γ) ?_
             simp -implicitDefEqProofs only [go_sem, seval, f1, f7, f8, f9, f10, f11, f12, hi1, f33, hq, f22, f23, f24, f26, f27, f28, f30, f31, f32]
             refine X_skip ?_
             try simp -implicitDefEqProofs only [go_sem]
             refine X_reg (lx_ok γ) ?_
             obtain rfl := sI h
             simp -implicitDefEqProofs only [go_sem, seval, f1, f7, f8, f9, f10, f11, f12, hi1, f33, hq]
             refine kR_in rfl ?_ ⟨rfl, rfl⟩
             exact To.mv [(0, 0), (1, 0), (2, 0)] (BaseR.refl hob) (by simp) (by decide) (by simp only [go_sem]; exact ⟨VM.refA (j := 0) (t := 0) rfl, VM.refA (j := 1) (t := 1) rfl, VM.refA (j := 2) (t := 2) rfl, VM.eqv (by rw [hw1]) (by simp)⟩) ⟨⟨_, rfl, OM.box _ _ ⟨vS, vS, vS, vS, vS, vS, VM.self (by simpa using Bd.of_rdK hv2_6), trivial⟩⟩, ⟨_, rfl, OM.box _ _ ⟨vS, vS, vS, vS, vS, trivial⟩⟩, ⟨_, rfl, OM.box _ _ ⟨vS, vS, vS, vS, vS, trivial⟩⟩, trivial⟩
            ·rw [if_pos f33] at h
             refine X_cond (lx_ok γ) ?_
             simp -implicitDefEqProofs only [go_sem, seval, f1, f7, f8, f9, f10, f11, f12, hi1, f33, hq, f22, f23, f24, f26, f27, f28, f30, f31, f32]
             refine X_sr (lx_ok γ) ?_
             simp -implicitDefEqProofs only [go_sem, seval, f1, f7, f8, f9, f10, f11, f12, hi1, f33, hq]
             obtain rfl := sI h
             have h := hr1 _ (ho1 (fun _ hs => nomatch hs))
             obtain rfl := sI h
             refine X_ret ?_
             simp -implicitDefEqProofs only [go_sem, seval, f1, f7, f8, f9, f10, f11, f12, hi1, f33, hq]
             exact Rt.mv0 (BaseR.refl hob) (by simp) (vS)
           ·rintro i1 _ hi1 hn1 as1 ob1 ⟨rfl, rfl⟩
            refine X_seq ?_
            refine X_sr (lx_ok γ) ?_
            simp -implicitDefEqProofs only [go_sem, seval, f1, f7, f8, f9, f10, f11, f12, hi1, hq]
            refine X_cond (lx_ok γ) ?_
            simp -implicitDefEqProofs only [go_sem, seval, f1, f7, f8, f9, f10, f11, f12, hi1, hq]
            have h := hk1 _ (.inl hn1)
            refine X_exit ?_
            try simp -implicitDefEqProofs only [go_sem, ↓reduceIte, Nat.reduceEqDiff, reduceCtorEq]
            refine kJ_in ?_ ⟨h, rfl, rfl⟩
            exact To.mv [(0, 0), (1, 0), (2, 0)] (BaseR.refl hob) (by simp) (by decide) (by simp only [go_sem]; exact ⟨VM.refA (j := 0) (t := 0) rfl, VM.refA (j := 1) (t := 1) rfl, VM.refA (j := 2) (t := 2) rfl⟩) ⟨⟨_, rfl, OM.box _ _ ⟨vS, vS, vS, vS, vS, vS, VM.self (by simpa using Bd.of_rdK hv2_6), trivial⟩⟩, ⟨_, rfl, OM.box _ _ ⟨vS, vS, vS, vS, vS, trivial⟩⟩, ⟨_, rfl, OM.box _ _ ⟨vS, vS, vS, vS, vS, trivial⟩⟩, trivial⟩
        ·rw [if_pos f11] at h
         refine X_cond (lx_ok γ) ?_
         simp -implicitDefEqProofs only [go_sem, seval, f1, f7, f8, f9, f10, f11, hq]
         refine X_seq ?_
         refine X_drawn (lx_ok γ) [[], [0], [], [2], [0, 1, 2, 3], [0, 1, 2, 3, 4], [], [6], [0, 1, 2, 3, 4, 5, 6, 7], [0, 1, 2, 3, 4, 5, 6, 7, 8]] (fun i => match i with | _ => false) (by kernel_rfl) ?_
         obtain ⟨x13, f34, h⟩ := bindE h
         obtain ⟨f35, f36, f37⟩ := ixL_some f34
         try simp only [Int.toNat_natCast, Int.reduceToNat] at f37
         try simp -implicitDefEqProofs only [go_sem, seval, f1, f7, f8, f9, f10, f11, hq, f35, f36, f37, cmpr, List.getD_cons_zero, List.getD_cons_succ, List.contains_cons, List.contains_nil, Nat.reduceBEq, Bool.false_or, Bool.or_false, Bool.true_or, Bool.or_true, beq_self_eq_true]
         obtain rfl := sI h
         refine X_ret ?_
         simp -implicitDefEqProofs only [go_sem, seval, f1, f7, f8, f9, f10, f11, hq, f35, f36, f37]
         exact Rt.mv0 (BaseR.refl hob) (by simp) (vS)
       ·rw [if_pos f10] at h
        refine X_cond (lx_ok γ) ?_
        simp -implicitDefEqProofs only [go_sem, seval, f1, f7, f8, f9, f10, hq]
        refine X_seq ?_
        refine X_drawn (lx_ok γ) [[], [0], [], [2], [0, 1, 2, 3], [0, 1, 2, 3, 4], [], [6], [], [8], [6, 7, 8, 9], [6, 7, 8, 9, 10], [0, 1, 2, 3, 4, 5, 6, 7, 8, 9, 10, 11], [0, 1, 2, 3, 4, 5, 6, 7, 8, 9, 10, 11, 12]] (fun i => match i with | _ => false) (by kernel_rfl) ?_
        obtain ⟨x14, f38, h⟩ := bindE h
        obtain ⟨f39, f40, f41⟩ := ixL_some f38
        try simp only [Int.toNat_natCast, Int.reduceToNat] at f41
        obtain ⟨x15, f42, h⟩ := bindE h
        obtain ⟨f43, f44, f45⟩ := ixL_some f42
        try simp only [Int.toNat_natCast, Int.reduceToNat] at f45
        try simp -implicitDefEqProofs only [go_sem, seval, f1, f7, f8, f9, f10, hq, f39, f40, f41, f43, f44, f45, cmpr, List.getD_cons_zero, List.getD_cons_succ, List.contains_cons, List.contains_nil, Nat.reduceBEq, Bool.false_or, Bool.or_false, Bool.true_or, Bool.or_true, beq_self_eq_true]
        obtain rfl := sI h
        refine X_ret ?_
        simp -implicitDefEqProofs only [go_sem, seval, f1, f7, f8, f9, f10, hq, f39, f40, f41, f43, f44, f45]
        exact Rt.mv0 (BaseR.refl hob) (by simp) (vS)
      ·rw [if_pos f9] at h
       refine X_cond (lx_ok γ) ?_
       simp -implicitDefEqProofs only [go_sem, seval, f1, f7, f8, f9, hq]
       refine X_seq ?_
       refine X_drawn (lx_ok γ) [[], [0], [], [2], [0, 1, 2, 3], [0, 1, 2, 3, 4], [], [6], [0, 1, 2, 3, 4, 5, 6, 7], [0, 1, 2, 3, 4, 5, 6, 7, 8]] (fun i => match i with | _ => false) (by kernel_rfl) ?_
       obtain ⟨x16, f46, h⟩ := bindE h
       obtain ⟨f47, f48, f49⟩ := ixL_some f46
       try simp only [Int.toNat_natCast, Int.reduceToNat] at f49
       try simp -implicitDefEqProofs only [go_sem, seval, f1, f7, f8, f9, hq, f47, f48, f49, cmpr, List.getD_cons_zero, List.getD_cons_succ, List.contains_cons, List.contains_nil, Nat.reduceBEq, Bool.false_or, Bool.or_false, Bool.true_or, Bool.or_true, beq_self_eq_true]
       obtain rfl := sI h
       refine X_ret ?_
       simp -implicitDefEqProofs only [go_sem, seval, f1, f7, f8, f9, hq, f47, f48, f49]
       exact Rt.mv0 (BaseR.refl hob) (by simp) (vS)
     ·rw [if_pos f8] at h
      refine X_cond (lx_ok γ) ?_
      simp -implicitDefEqProofs only [go_sem, seval, f1, f7, f8, hq]
      refine X_seq ?_
      refine X_drawn (lx_ok γ) [[], [0], [], [2], [0, 1, 2, 3], [0, 1, 2, 3, 4], [], [6], [], [8], [6, 7, 8, 9], [6, 7, 8, 9, 10], [0, 1, 2, 3, 4, 5, 6, 7, 8, 9, 10, 11], [0, 1, 2, 3, 4, 5, 6, 7, 8, 9, 10, 11, 12], [0, 1, 2, 3, 4, 5, 6, 7, 8, 9, 10, 11, 12, 13], [0, 1, 2, 3, 4, 5, 6, 7, 8, 9, 10, 11, 12, 13, 14], [0, 1, 2, 3, 4, 5, 6, 7, 8, 9, 10, 11, 12, 13], [0, 1, 2, 3, 4, 5, 6, 7, 8, 9, 10, 11, 12, 13, 16], [0, 1, 2, 3, 4, 5, 6, 7, 8, 9, 10, 11, 12, 13, 14, 15, 16, 17], [0, 1, 2, 3, 4, 5, 6, 7, 8, 9, 10, 11, 12, 13, 14, 15, 16, 17, 18], [0, 1, 2, 3, 4, 5, 6, 7, 8, 9, 10, 11, 12, 13, 14, 15, 16, 17, 18, 19], [0, 1, 2, 3, 4, 5, 6, 7, 8, 9, 10, 11, 12, 13, 14, 15, 16, 17, 18, 19, 20], [0, 1, 2, 3, 4, 5, 6, 7, 8, 9, 10, 11, 12, 13, 14, 15, 16, 17, 18, 19, 20, 21]] (fun i => match i with | _ => false) (by kernel_rfl) ?_
      obtain ⟨x17, f50, h⟩ := bindE h
      obtain ⟨f51, f52, f53⟩ := ixL_some f50
      try simp only [Int.toNat_natCast, Int.reduceToNat] at f53
      obtain ⟨x18, f54, h⟩ := bindE h
      obtain ⟨f55, f56, f57⟩ := ixL_some f54
      try simp only [Int.toNat_natCast, Int.reduceToNat] at f57
      cases f58 : (x17 == x18)
      ·rw [if_neg (nF f58)] at h
       try simp -implicitDefEqProofs only [go_sem, seval, f1, f7, f8, f58, hq, f51, f52, f53, f55, f56, f57, cmpr, List.getD_cons_zero, List.getD_cons_succ, List.contains_cons, List.contains_nil, Nat.reduceBEq, Bool.false_or, Bool.or_false, Bool.true_or, Bool.or_true, beq_self_eq_true]
       obtain rfl := sI h
       refine X_ret ?_
       simp -implicitDefEqProofs only [go_sem, seval, f1, f7, f8, f58, hq, f51, f52, f53, f55, f56, f57]
       exact Rt.mv0 (BaseR.refl hob) (by simp) (vS)
      ·rw [if_pos f58] at h
       try simp -implicitDefEqProofs only [go_sem, seval, f1, f7, f8, f58, hq, f51, f52, f53, f55, f56, f57, cmpr, List.getD_cons_zero, List.getD_cons_succ, List.contains_cons, List.contains_nil, Nat.reduceBEq, Bool.false_or, Bool.or_false, Bool.true_or, Bool.or_true, beq_self_eq_true]
       obtain rfl := sI h
       refine X_ret ?_
       simp -implicitDefEqProofs only [go_sem, seval, f1, f7, f8, f58, hq, f51, f52, f53, f55, f56, f57]
       exact Rt.mv0 (BaseR.refl hob) (by simp) (vS)
    ·rw [if_pos f7] at h
     refine X_cond (lx_ok γ) ?_
     simp -implicitDefEqProofs only [go_sem, seval, f1, f7, hq]
     refine X_sr (lx_ok γ) ?_
     simp -implicitDefEqProofs only [go_sem, seval, f1, f7, hq]
     obtain rfl := sI h
     refine X_ret ?_
     simp -implicitDefEqProofs only [go_sem, seval, f1, f7, hq]
     exact Rt.mv0 (BaseR.refl hob) (by simp) (vS)
   ·refine X_drawn (lx_ok γ) [[], [], [1], [], [3], [0, 1, 2, 3, 4], [0, 1, 2, 3, 4, 5], [0, 1, 2, 3, 4, 5, 6], [0, 1, 2, 3, 4, 5, 6, 7], [0, 1, 2, 3, 4, 5, 6, 7], [0, 1, 2, 3, 4, 5, 6, 7, 9], [0, 1, 2, 3, 4, 5, 6, 7], [0, 1, 2, 3, 4, 5, 6, 7, 11], [0, 1, 2, 3, 4, 5, 6, 7, 8, 9, 10, 11, 12], [0, 1, 2, 3, 4, 5, 6, 7, 8, 9, 10, 11, 12, 13], [0, 1, 2, 3, 4, 5, 6, 7, 8, 9, 10, 11, 12, 13, 14], [0, 1, 2, 3, 4, 5, 6, 7, 8, 9, 10, 11, 12, 13, 14, 15], [0, 1, 2, 3, 4, 5, 6, 7, 8, 9, 10, 11, 12, 13, 14, 15, 16], [0, 1, 2, 3, 4, 5, 6, 7, 8, 9, 10, 11, 12, 13, 14, 15, 16], [0, 1, 2, 3, 4, 5, 6, 7, 8, 9, 10, 11, 12, 13, 14, 15, 16, 18], [0, 1, 2, 3, 4, 5, 6, 7, 8, 9, 10, 11, 12, 13, 14, 15, 16], [0, 1, 2, 3, 4, 5, 6, 7, 8, 9, 10, 11, 12, 13, 14, 15, 16, 20], [0, 1, 2, 3, 4, 5, 6, 7, 8, 9, 10, 11, 12, 13, 14, 15, 16, 17, 18, 19, 20, 21], [0, 1, 2, 3, 4, 5, 6, 7, 8, 9, 10, 11, 12, 13, 14, 15, 16, 17, 18, 19, 20, 21, 22], [0, 1, 2, 3, 4, 5, 6, 7, 8, 9, 10, 11, 12, 13, 14, 15, 16, 17, 18, 19, 20, 21, 22, 23]] (fun i => match i with | _ => false) (by kernel_rfl) ?_
    obtain ⟨x19, f59, h⟩ := bindE h
    obtain ⟨f60, f61, f62, f63⟩ := ixS_some f59
    try simp only [Int.toNat_natCast, Int.reduceToNat] at f62
    replace f63 := f63.symm
    obtain ⟨x20, f64, h⟩ := bindE h
    try simp -implicitDefEqProofs only [go_sem, seval, f1, hq, f60, f62, f63, cmpr, List.getD_cons_zero, List.getD_cons_succ, List.contains_cons, List.contains_nil, Nat.reduceBEq, Bool.false_or, Bool.or_false, Bool.true_or, Bool.or_true, beq_self_eq_true]
    refine callV_eq (portolanref08_is_ok γ _ (by simp -implicitDefEqProofs only [go_sem, seval, f1, hq, f60, f62, f63]; try rfl) (by simp -implicitDefEqProofs only [go_sem, seval, f1, hq, f60, f62, f63]; try rfl) (by simp -implicitDefEqProofs only [go_sem, seval, f1, hq, f60, f62, f63]; try rfl) f64) rfl rfl ?_
    cases f65 : x20
    ·rw [if_neg (nF f65)] at h
     try simp -implicitDefEqProofs only [go_sem, seval, f1, f65, hq, f60, f62, f63, cmpr, List.getD_cons_zero, List.getD_cons_succ, List.contains_cons, List.contains_nil, Nat.reduceBEq, Bool.false_or, Bool.or_false, Bool.true_or, Bool.or_true, beq_self_eq_true]
     refine kJ_in ?_ ⟨true, h, rfl, rfl⟩
     exact To.mv [(0, 0), (1, 0), (2, 0)] (BaseR.refl hob) (by simp) (by decide) (by simp only [go_sem]; exact ⟨VM.refA (j := 0) (t := 0) rfl, VM.refA (j := 1) (t := 1) rfl, VM.refA (j := 2) (t := 2) rfl, vS⟩) ⟨⟨_, rfl, OM.box _ _ ⟨VM.self (by simpa using Bd.of_rdK hv0_0), trivial⟩⟩, ⟨_, rfl, OM.box _ _ ⟨vS, vS, vS, vS, vS, vS, VM.self (by simpa using Bd.of_rdK hv2_6), trivial⟩⟩, ⟨_, rfl, OM.box _ _ ⟨vS, vS, vS, vS, vS, trivial⟩⟩, trivial⟩
    ·rw [if_pos f65] at h
     obtain ⟨x21, f66, h⟩ := bindE h
     obtain ⟨f67, f68, f69, f70⟩ := ixS_some f66
     try simp only [Int.toNat_natCast, Int.reduceToNat] at f69
     replace f70 := f70.symm
     obtain ⟨x22, f71, h⟩ := bindE h
     try simp -implicitDefEqProofs only [go_sem, seval, f1, f65, hq, f60, f62, f63, f67, f69, f70, cmpr, List.getD_cons_zero, List.getD_cons_succ, List.contains_cons, List.contains_nil, Nat.reduceBEq, Bool.false_or, Bool.or_false, Bool.true_or, Bool.or_true, beq_self_eq_true]
     refine callV_eq (portolanref08_is_ok γ _ (by simp -implicitDefEqProofs only [go_sem, seval, f1, f65, hq, f60, f62, f63, f67, f69, f70]; try rfl) (by simp -implicitDefEqProofs only [go_sem, seval, f1, f65, hq, f60, f62, f63, f67, f69, f70]; try rfl) (by simp -implicitDefEqProofs only [go_sem, seval, f1, f65, hq, f60, f62, f63, f67, f69, f70]; try rfl) f71) rfl rfl ?_
     cases f72 : x22
     ·rw [if_neg (nF f72)] at h
      try simp -implicitDefEqProofs only [go_sem, seval, f1, f65, f72, hq, f60, f62, f63, f67, f69, f70, cmpr, List.getD_cons_zero, List.getD_cons_succ, List.contains_cons, List.contains_nil, Nat.reduceBEq, Bool.false_or, Bool.or_false, Bool.true_or, Bool.or_true, beq_self_eq_true]
      refine kJ_in ?_ ⟨true, h, rfl, rfl⟩
      exact To.mv [(0, 0), (1, 0), (2, 0)] (BaseR.refl hob) (by simp) (by decide) (by simp only [go_sem]; exact ⟨VM.refA (j := 0) (t := 0) rfl, VM.refA (j := 1) (t := 1) rfl, VM.refA (j := 2) (t := 2) rfl, vS⟩) ⟨⟨_, rfl, OM.box _ _ ⟨VM.self (by simpa using Bd.of_rdK hv0_0), trivial⟩⟩, ⟨_, rfl, OM.box _ _ ⟨vS, vS, vS, vS, vS, vS, VM.self (by simpa using Bd.of_rdK hv2_6), trivial⟩⟩, ⟨_, rfl, OM.box _ _ ⟨vS, vS, vS, vS, vS, trivial⟩⟩, trivial⟩
     ·rw [if_pos f72] at h
      obtain ⟨x23, f73, h⟩ := bindE h
      obtain ⟨f74, f75, f76, f77⟩ := ixS_some f73
      try simp only [Int.toNat_natCast, Int.reduceToNat] at f76
      replace f77 := f77.symm
      obtain ⟨x24, f78, h⟩ := bindE h
      try simp -implicitDefEqProofs only [go_sem, seval, f1, f65, f72, hq, f60, f62, f63, f67, f69, f70, f74, f76, f77, cmpr, List.getD_cons_zero, List.getD_cons_succ, List.contains_cons, List.contains_nil, Nat.reduceBEq, Bool.false_or, Bool.or_false, Bool.true_or, Bool.or_true, beq_self_eq_true]
      refine callV_eq (portolanref08_is_ok γ _ (by simp -implicitDefEqProofs only [go_sem, seval, f1, f65, f72, hq, f60, f62, f63, f67, f69, f70, f74, f76, f77]; try rfl) (by simp -implicitDefEqProofs only [go_sem, seval, f1, f65, f72, hq, f60, f62, f63, f67, f69, f70, f74, f76, f77]; try rfl) (by simp -implicitDefEqProofs only [go_sem, seval, f1, f65, f72, hq, f60, f62, f63, f67, f69, f70, f74, f76, f77]; try rfl) f78) rfl rfl ?_
      try simp -implicitDefEqProofs only [go_sem, seval, f1, f65, f72, hq, f60, f62, f63, f67, f69, f70, f74, f76, f77, cmpr, List.getD_cons_zero, List.getD_cons_succ, List.contains_cons, List.contains_nil, Nat.reduceBEq, Bool.false_or, Bool.or_false, Bool.true_or, Bool.or_true, beq_self_eq_true]
      refine kJ_in ?_ ⟨(!x24), h, rfl, rfl⟩
      exact To.mv [(0, 0), (1, 0), (2, 0)] (BaseR.refl hob) (by simp) (by decide) (by simp only [go_sem]; exact ⟨VM.refA (j := 0) (t := 0) rfl, VM.refA (j := 1) (t := 1) rfl, VM.refA (j := 2) (t := 2) rfl, vS⟩) ⟨⟨_, rfl, OM.box _ _ ⟨VM.self (by simpa using Bd.of_rdK hv0_0), trivial⟩⟩, ⟨_, rfl, OM.box _ _ ⟨vS, vS, vS, vS, vS, vS, VM.self (by simpa using Bd.of_rdK hv2_6), trivial⟩⟩, ⟨_, rfl, OM.box _ _ ⟨vS, vS, vS, vS, vS, trivial⟩⟩, trivial⟩
  ·rw [if_pos f1] at h
   refine X_cond (lx_ok γ) ?_
   simp -implicitDefEqProofs only [go_sem, seval, f1, hq]
   refine X_sr (lx_ok γ) ?_
   simp -implicitDefEqProofs only [go_sem, seval, f1, hq]
   obtain rfl := sI h
   refine X_ret ?_
   simp -implicitDefEqProofs only [go_sem, seval, f1, hq]
   exact Rt.mv0 (BaseR.refl hob) (by simp) (vS)
 ·refine X_reg (lx_ok γ) ?_
  cases f79 : decide (a1 < 0)
  ·rw [if_neg (nF f79)] at h
   simp -implicitDefEqProofs only [go_sem, seval, f79, hq]
   refine kJ_in ?_ ⟨(decide ((List.length a0.Funcs : Int) ≤ a1)), h, rfl, rfl⟩
   exact To.mv [(0, 0), (1, 0)] (BaseR.refl hob) (by simp) (by decide) (by simp only [go_sem]; exact ⟨vS, VM.refA (j := 0) (t := 0) rfl, VM.refA (j := 1) (t := 1) rfl, vS⟩) ⟨⟨_, rfl, OM.box _ _ ⟨VM.self (by simpa using Bd.of_rdK hv0_0), trivial⟩⟩, ⟨_, rfl, OM.box _ _ ⟨vS, vS, vS, vS, vS, vS, VM.self (by simpa using Bd.of_rdK hv2_6), trivial⟩⟩, trivial⟩
  ·rw [if_pos f79] at h
   simp -implicitDefEqProofs only [go_sem, seval, f79, hq]
   refine kJ_in ?_ ⟨true, h, rfl, rfl⟩
   exact To.mv [(0, 0), (1, 0)] (BaseR.refl hob) (by simp) (by decide) (by simp only [go_sem]; exact ⟨vS, VM.refA (j := 0) (t := 0) rfl, VM.refA (j := 1) (t := 1) rfl, vS⟩) ⟨⟨_, rfl, OM.box _ _ ⟨VM.self (by simpa using Bd.of_rdK hv0_0), trivial⟩⟩, ⟨_, rfl, OM.box _ _ ⟨vS, vS, vS, vS, vS, vS, VM.self (by simpa using Bd.of_rdK hv2_6), trivial⟩⟩, trivial⟩
end Go.Pf
end
section
set_option maxRecDepth 100000
namespace Go.Pf
open Go Go.Ab Go.Pp Go.Proofs Go.Proofs.S08
attribute [local go_sem] Lxτ Lxγ gam0 gam1 Int.toNat_natCast tau3 tau4 tau22 tau24 tau25 tau27 tau30 tau33 tau35 tau36 tau38 eI eB eS e_Ins e_Block e_Func e_Prog e_kind_state eL_Intu64
set_option maxHeartbeats 1000000 in
theorem portolanlaw08_KindFits_ok (γ : GT) (ob : OT) {a0 : Prog} {v0_0 : V} {a1 : Int} {a2 : Ins} {v2_6 : V} (hv0_0 : rdK (getO ob) 5 v0_0 = some (List.map e_Func a0.Funcs)) (hv2_6 : rdK (getO ob) 1 v2_6 = some (List.map (eI .i64) a2.Args)) {r : Bool} (h : portolanlaw08_KindFits a0 a1 a2 = some r) :
  Valid (Lx γ) 3 [V.agg [v0_0], vint .i64 a1, V.agg [vint .i64 a2.Op, vint .i64 a2.D, vint .i64 a2.A, vint .i64 a2.B, vint .i64 a2.N, vint .i64 a2.M, v2_6]] ob (vbool r) ob := by
 refine valid_X (lx_ok γ) (fn := Tryd.f3) (rs := [.tmp 6]) Tryd.func3 (by kernel_rfl) rfl rfl Tryd.ntmps3 rfl (by simp) fun hb hob => ?_
 have hq := And.intro (rd4 hv0_0) (rd4 hv2_6)
 rw [portolanlaw08_KindFits] at h
 refine X_sr (lx_ok γ) ?_
 simp -implicitDefEqProofs only [go_sem, seval, hq]
 refine X_seq ?_
 refine X_sr (lx_ok γ) ?_
 obtain ⟨x1, f1, h⟩ := bindE h
 simp -implicitDefEqProofs only [go_sem, seval, hq]
 refine callV_eq (portolanlaw08_alive_ok γ _  f1) rfl rfl ?_
 simp -implicitDefEqProofs only [go_sem, seval, hq]
 cases f2 : x1
 ·rw [if_neg (nF f2)] at h
  refine X_cond (lx_ok γ) ?_
  simp -implicitDefEqProofs only [go_sem, seval, f2, hq]
  refine X_sr (lx_ok γ) ?_
  simp -implicitDefEqProofs only [go_sem, seval, f2, hq]
  obtain rfl := sI h
  refine X_ret ?_
  simp -implicitDefEqProofs only [go_sem, seval, f2, hq]
  exact Rt.mv0 (BaseR.refl hob) (by simp) (vS)
 ·rw [if_pos f2] at h
  refine X_cond (lx_ok γ) ?_
  simp -implicitDefEqProofs only [go_sem, seval, f2, hq]
  refine X_skip ?_
  try simp -implicitDefEqProofs only [go_sem]
  refine X_seq ?_
  refine X_seq ?_
  refine X_jq (J := fun as1 ob1 => ∃ (x4 : Bool), portolanlaw08_KindFits.j1 a0 a1 a2 x4 = some r ∧ [(1, vint .i64 a1), (3, V.ref ob.length 0), (5, V.ref (ob.length + 1) 0), (22, vbool x4)] = as1 ∧ ob ++ [some (O.box [v0_0]), some (O.box [vint .i64 a2.Op, vint .i64 a2.D, vint .i64 a2.A, vint .i64 a2.B, vint .i64 a2.N, vint .i64 a2.M, v2_6])] = ob1) ?_ ?_
  ·rintro as1 ob1 ⟨x4, h, rfl, rfl⟩
   rw [portolanlaw08_KindFits.j1] at h
   simp -implicitDefEqProofs only [go_sem, seval, f2, hq]
   cases f3 : x4
   ·rw [if_neg (nF f3)] at h
    refine X_cond (lx_ok γ) ?_
    simp -implicitDefEqProofs only [go_sem, seval, f2, f3, hq]
    refine X_skip ?_
    try simp -implicitDefEqProofs only [go_sem]
    refine X_seq ?_
    refine X_drawn (lx_ok γ) [[], [], [], [0, 1, 2], [], [], [], [0, 1, 2, 3, 4, 5, 6], [0, 1, 2, 3, 4, 5, 6, 7], [0, 1, 2, 3, 4, 5, 6, 7, 8]] (fun i => match i with | _ => false) (by kernel_rfl) ?_
    obtain ⟨x5, f4, h⟩ := bindE h
    try simp -implicitDefEqProofs only [go_sem, seval, f2, f3, hq, cmpr, List.getD_cons_zero, List.getD_cons_succ, List.contains_cons, List.contains_nil, Nat.reduceBEq, Bool.false_or, Bool.or_false, Bool.true_or, Bool.or_true, beq_self_eq_true]
    refine callV_eq (kind_Fits_ok γ _ (by first | exact rdK_app hv0_0 | exact hv0_0) (by first | exact rdK_app hv2_6 | exact hv2_6) f4) rfl rfl ?_
    obtain ⟨x6, f5, h⟩ := bindE h
    try simp -implicitDefEqProofs only [go_sem, seval, f2, f3, hq, cmpr, List.getD_cons_zero, List.getD_cons_succ, List.contains_cons, List.contains_nil, Nat.reduceBEq, Bool.false_or, Bool.or_false, Bool.true_or, Bool.or_true, beq_self_eq_true]
    refine callV_eq (portolanref08_Fits_ok γ _ (by first | exact rdK_app hv0_0 | exact hv0_0) (by first | exact rdK_app hv2_6 | exact hv2_6) f5) rfl rfl ?_
    try simp -implicitDefEqProofs only [go_sem, seval, f2, f3, hq, cmpr, List.getD_cons_zero, List.getD_cons_succ, List.contains_cons, List.contains_nil, Nat.reduceBEq, Bool.false_or, Bool.or_false, Bool.true_or, Bool.or_true, beq_self_eq_true]
    obtain rfl := sI h
    refine X_ret ?_
    simp -implicitDefEqProofs only [go_sem, seval, f2, f3, hq]
    exact Rt.mv0 (BaseR.refl hob) (by simp) (vS)
   ·rw [if_pos f3] at h
    refine X_cond (lx_ok γ) ?_
    simp -implicitDefEqProofs only [go_sem, seval, f2, f3, hq]
    refine X_sr (lx_ok γ) ?_
    simp -implicitDefEqProofs only [go_sem, seval, f2, f3, hq]
    obtain rfl := sI h
    refine X_ret ?_
    simp -implicitDefEqProofs only [go_sem, seval, f2, f3, hq]
    exact Rt.mv0 (BaseR.refl hob) (by simp) (vS)
  ·refine X_reg (lx_ok γ) ?_
   obtain ⟨x7, f6, h⟩ := bindE h
   simp -implicitDefEqProofs only [go_sem, seval, f2, hq]
   refine callV_eq (portolanlaw08_great_ok γ _ (by first | exact rdK_app hv0_0 | exact hv0_0) f6) rfl rfl ?_
   cases f7 : x7
   ·rw [if_neg (nF f7)] at h
    obtain ⟨x8, f8, h⟩ := bindE h
    simp -implicitDefEqProofs only [go_sem, seval, f2, f7, hq]
    refine callV_eq (portolanref04_Check_ok γ _ (by first | exact rdK_app hv0_0 | exact hv0_0) f8) rfl rfl ?_
    cases f9 : (x8 != 0)
    ·rw [if_neg (nF f9)] at h
     obtain ⟨x9, f10, h⟩ := bindE h
     simp -implicitDefEqProofs only [go_sem, seval, f2, f7, f9, hq]
     refine callV_eq (portolanref04_Ins_ok γ _ (by first | exact rdK_app hv0_0 | exact hv0_0) (by first | exact rdK_app hv2_6 | exact hv2_6) f10) rfl rfl ?_
     simp -implicitDefEqProofs only [go_sem, seval, f2, f7, f9, hq]
     refine kJ_in ?_ ⟨(!x9), h, rfl, rfl⟩
     exact To.mv [(0, 0), (1, 0)] (BaseR.refl hob) (by simp) (by decide) (by simp only [go_sem]; exact ⟨vS, VM.refA (j := 0) (t := 0) rfl, VM.refA (j := 1) (t := 1) rfl, vS⟩) ⟨⟨_, rfl, OM.box _ _ ⟨VM.self (by simpa using Bd.of_rdK hv0_0), trivial⟩⟩, ⟨_, rfl, OM.box _ _ ⟨vS, vS, vS, vS, vS, vS, VM.self (by simpa using Bd.of_rdK hv2_6), trivial⟩⟩, trivial⟩
    ·rw [if_pos f9] at h
     simp -implicitDefEqProofs only [go_sem, seval, f2, f7, f9, hq]
     refine kJ_in ?_ ⟨true, h, rfl, rfl⟩
     exact To.mv [(0, 0), (1, 0)] (BaseR.refl hob) (by simp) (by decide) (by simp only [go_sem]; exact ⟨vS, VM.refA (j := 0) (t := 0) rfl, VM.refA (j := 1) (t := 1) rfl, vS⟩) ⟨⟨_, rfl, OM.box _ _ ⟨VM.self (by simpa using Bd.of_rdK hv0_0), trivial⟩⟩, ⟨_, rfl, OM.box _ _ ⟨vS, vS, vS, vS, vS, vS, VM.self (by simpa using Bd.of_rdK hv2_6), trivial⟩⟩, trivial⟩
   ·rw [if_pos f7] at h
    simp -implicitDefEqProofs only [go_sem, seval, f2, f7, hq]
    refine kJ_in ?_ ⟨true, h, rfl, rfl⟩
    exact To.mv [(0, 0), (1, 0)] (BaseR.refl hob) (by simp) (by decide) (by simp only [go_sem]; exact ⟨vS, VM.refA (j := 0) (t := 0) rfl, VM.refA (j := 1) (t := 1) rfl, vS⟩) ⟨⟨_, rfl, OM.box _ _ ⟨VM.self (by simpa using Bd.of_rdK hv0_0), trivial⟩⟩, ⟨_, rfl, OM.box _ _ ⟨vS, vS, vS, vS, vS, vS, VM.self (by simpa using Bd.of_rdK hv2_6), trivial⟩⟩, trivial⟩
end Go.Pf
end
