/- Each function computes what its plain one says, part 2 -/
import Derived.Laws.Rows
import Derived.Lib.Walk
import Derived.OpenShut
import Derived.ProofKit
import Derived.WalkKit
import Derived.Test.YtcbbchfhfacbdaaDoorFK1
set_option linter.all false
section
/- The fixed fact of the laws of shapes: alive. -/
namespace Go.Pf
open Go Go.Ab Go.Pp Go.Proofs Go.Proofs.S04
set_option maxRecDepth 100000
def tinyW (w : World) : World :=
  (((((w.alloc (.cells #[.slice (some ⟨w.heap.size + 1 + 1 + 1 + 1 + 1, 0, none⟩) 1 1] 24)).alloc (.cells #[.int .i64 0] 3)).alloc (.cells #[.int .i64 (-1)] 3)).alloc
    (.cells #[.int .i64 1, .int .i64 0, .int .i64 0, .int .i64 0, .int .i64 5, .int .i64 0, .slice none 0 0, .int .i64 23, .int .i64 0, .int .i64 0, .int .i64 0, .int .i64 0, .int .i64 0, .slice none 0 0] 35)).alloc
    (.cells #[.slice (some ⟨w.heap.size + 1 + 1 + 1, 0, none⟩) 2 2] 44)).alloc
    (.cells #[.slice (some ⟨w.heap.size + 1, 0, none⟩) 1 1, .slice (some ⟨w.heap.size + 1 + 1, 0, none⟩) 1 1, .int .i64 0, .int .i64 0, .slice (some ⟨w.heap.size + 1 + 1 + 1 + 1, 0, none⟩) 1 1] 31)
theorem al_get (w : World) (o : Obj) (i : Nat) : (w.alloc o).heap[i]? = if i = w.heap.size then some o else w.heap[i]? := by
  simp only [World.alloc, Array.getElem?_push]
theorem al_size (w : World) (o : Obj) : (w.alloc o).heap.size = w.heap.size + 1 := by simp only [World.alloc, Array.size_push]
theorem tiny_calls (w : World) : Calls Tryd.prog 34 #[] w fun e w' => e = .returned (.agg #[.slice (some ⟨w.heap.size + 1 + 1 + 1 + 1 + 1, 0, none⟩) 1 1]) ∧ w' = tinyW w := by
  go_enter Tryd.func34, Tryd.ntmps34
  go_wp2
  refine bodyPost_ret (results_cell_row rfl _ _ w.heap.size 24 #[.slice (some ⟨w.heap.size + 1 + 1 + 1 + 1 + 1, 0, none⟩) 1 1] (0, 0) _ rfl (by rw [al_get, if_neg (by simp only [al_size]; omega), al_get, if_neg (by simp only [al_size]; omega), al_get, if_neg (by simp only [al_size]; omega), al_get, if_neg (by simp only [al_size]; omega), al_get, if_neg (by simp only [al_size]; omega), al_get, if_pos rfl]) Tryd.underlying24 rfl (by kernel_rfl)) rfl ?_
  exact ⟨rfl, rfl⟩

theorem TR_arr {M : Mem} {b : Nat} {arr : Array Value} {T : TypeId} {fr : Nat × Nat} {k n : Nat} {es : List (List Tr)} (hM : M b = some (.cells arr T fr)) (hn : es.length = n) (hk : ∀ e ∈ es, e.length = k) (hl : n * k = arr.size)
    (hT : ∀ i e j t, es[i]? = some e → e[j]? = some t → TR M t (arr.getD (i * k + j) undef)) : TR M (.sl k false es) (.slice (some ⟨b, 0, none⟩) n n) := by
  subst hn
  refine .sl k false es b 0 es.length (fun i j => arr.getD (i * k + j) undef) (by simp) (Nat.le_refl _) hk (fun i e j t hi hj => ?_) hT
  have hil := (List.getElem?_eq_some_iff.1 hi).1
  have hjl := (List.getElem?_eq_some_iff.1 hj).1
  have hke := hk e (List.mem_of_getElem? hi)
  have hlt : i * k + j < arr.size := by
    rw [← hl]
    have : (i + 1) * k ≤ es.length * k := Nat.mul_le_mul_right k hil
    rw [Nat.add_mul] at this; omega
  simp only [Mem.cell, hM, Nat.zero_add]
  rw [Array.getElem?_eq_getElem hlt]
  simp [Array.getD, hlt]
def insC : Ins := ⟨1, 0, 0, 0, 5, 0, []⟩
def insR (op : Int) : Ins := ⟨op, 0, 0, 0, 0, 0, []⟩
def progT (op : Int) : Prog := ⟨[⟨[0], [-1], 0, 0, [⟨[insC, insR op]⟩]⟩]⟩
/-- the blocks of a tiny program, from n on -/
structure TinyAt (w : World) (n : Nat) (op : Int) : Prop where
  h1 : w.heap[n]? = some (.cells #[.int .i64 0] 3)
  h2 : w.heap[n + 1]? = some (.cells #[.int .i64 (-1)] 3)
  h3 : w.heap[n + 2]? = some (.cells #[.int .i64 1, .int .i64 0, .int .i64 0, .int .i64 0, .int .i64 5, .int .i64 0, .slice none 0 0, .int .i64 op, .int .i64 0, .int .i64 0, .int .i64 0, .int .i64 0, .int .i64 0, .slice none 0 0] 35)
  h4 : w.heap[n + 3]? = some (.cells #[.slice (some ⟨n + 2, 0, none⟩) 2 2] 44)
  h5 : w.heap[n + 4]? = some (.cells #[.slice (some ⟨n, 0, none⟩) 1 1, .slice (some ⟨n + 1, 0, none⟩) 1 1, .int .i64 0, .int .i64 0, .slice (some ⟨n + 3, 0, none⟩) 1 1] 31)
theorem TinyAt.same {w w' : World} {n : Nat} {op : Int} (h : TinyAt w n op) (hs : SameW w w') : TinyAt w' n op := by
  have lt : ∀ {b : Nat} {y : Obj}, w.heap[b]? = some y → w'.heap[b]? = some y := fun {b y} hb => by rw [hs.block b (Array.getElem?_eq_some_iff.1 hb).1]; exact hb
  exact ⟨lt h.h1, lt h.h2, lt h.h3, lt h.h4, lt h.h5⟩
theorem TinyAt.tree {w : World} {n : Nat} {op : Int} (h : TinyAt w n op) : TR (memOf w) (.sl 5 false (List.map e_Func (progT op).Funcs)) (.slice (some ⟨n + 4, 0, none⟩) 1 1) := by
  have a1 : TR (memOf w) (.sl 1 false (List.map (eI .i64) [0])) (.slice (some ⟨n, 0, none⟩) 1 1) := TR_arr (M := memOf w) h.h1 rfl (by simp [eI]) rfl (fun i e j t hi hj => by
    rcases i with _ | i <;> simp [eI] at hi
    subst hi
    rcases j with _ | j <;> simp at hj
    subst hj; exact .lit _ rfl)
  have a2 : TR (memOf w) (.sl 1 false (List.map (eI .i64) [-1])) (.slice (some ⟨n + 1, 0, none⟩) 1 1) := TR_arr (M := memOf w) h.h2 rfl (by simp [eI]) rfl (fun i e j t hi hj => by
    rcases i with _ | i <;> simp [eI] at hi
    subst hi
    rcases j with _ | j <;> simp at hj
    subst hj; exact .lit _ rfl)
  have a3 : TR (memOf w) (.sl 7 false (List.map e_Ins [insC, insR op])) (.slice (some ⟨n + 2, 0, none⟩) 2 2) := TR_arr (M := memOf w) h.h3 rfl (by simp [e_Ins]) rfl (fun i e j t hi hj => by
    rcases i with _ | _ | i <;> simp [e_Ins, insC, insR] at hi
    · subst hi
      rcases j with _ | _ | _ | _ | _ | _ | _ | j <;> simp at hj
      all_goals subst hj
      all_goals first | exact .lit _ rfl | exact .nil _ _ _ _ (by simp)
    · subst hi
      rcases j with _ | _ | _ | _ | _ | _ | _ | j <;> simp at hj
      all_goals subst hj
      all_goals first | exact .lit _ rfl | exact .nil _ _ _ _ (by simp))
  have a4 : TR (memOf w) (.sl 1 false (List.map e_Block [⟨[insC, insR op]⟩])) (.slice (some ⟨n + 3, 0, none⟩) 1 1) := TR_arr (M := memOf w) h.h4 rfl (by simp [e_Block]) rfl (fun i e j t hi hj => by
    rcases i with _ | i <;> simp [e_Block] at hi
    subst hi
    rcases j with _ | j <;> simp at hj
    subst hj; exact a3)
  exact TR_arr (M := memOf w) h.h5 rfl (by simp [e_Func, progT]) rfl (fun i e j t hi hj => by
    rcases i with _ | i <;> simp [e_Func, progT] at hi
    subst hi
    rcases j with _ | _ | _ | _ | _ | j <;> simp at hj
    all_goals subst hj
    · exact a1
    · exact a2
    · exact .lit _ rfl
    · exact .lit _ rfl
    · exact a4)
theorem check_plain : shape_Check (progT 23) = some 0 ∧ shape_Check (progT 21) = some 5 := by decide +kernel
theorem last_plain : shape_Last 23 = some true := by decide +kernel
theorem sort2 (a b : Int) : [a, b].mergeSort (fun x y => decide (x ≤ y)) = if a ≤ b then [a, b] else [b, a] := by
  simp [List.mergeSort, List.MergeSort.Internal.splitInTwo, List.merge]
theorem next_plain : shape_Next ⟨22, 0, 0, 0, 3, 1, []⟩ = some [1, 3] := by
  simp only [shape_Next, shape_Next.j1, slices_Sort_int, slices_Compact_int, sort2]
  decide +kernel
theorem Glob.same {w w' : World} {γ : GT} (hg : Glob γ (memOf w)) (h : SameW w w') : Glob γ (memOf w') := by
  exact hg.mono fun b x hb => by
    have hlt : b < w.heap.size := (Array.getElem?_eq_some_iff.1 (show w.heap[b]? = some x from hb)).1
    exact (h.block b hlt).trans hb
theorem check_calls {w : World} {n : Nat} {op r : Int} (hg : Glob gam (memOf w)) (h : TinyAt w n op) (hr : shape_Check (progT op) = some r) :
    Calls Tryd.prog 13 #[.agg #[.slice (some ⟨n + 4, 0, none⟩) 1 1]] w fun e w' => e = .returned (.int .i64 r) ∧ SameW w w' := by
  refine calls_of_valid (L := Lx gam) (shape_Check_ok gam [] hr) hg rfl (fun j c hj => ?_)
  match j, hj with
  | 0, hj =>
    simp at hj; subst hj
    exact .agg _ _ rfl (fun j c hj => by
      match j, hj with
      | 0, hj => simp at hj; subst hj; exact .tr h.tree
      | j + 1, hj => simp at hj)
  | j + 1, hj => simp at hj
theorem last_calls {w : World} (hg : Glob gam (memOf w)) : Calls Tryd.prog 19 #[.int .i64 23] w fun e w' => e = .returned (.bool true) ∧ SameW w w' := by
  refine calls_of_valid (L := Lx gam) (shape_Last_ok gam [] last_plain) hg rfl (fun j c hj => ?_)
  match j, hj with
  | 0, hj => simp at hj; subst hj; exact .tr (.lit _ rfl)
  | j + 1, hj => simp at hj
end Go.Pf
end
section
/- The fixed fact of the laws of shapes: alive, whole. -/
namespace Go.Pf
open Go Go.Ab Go.Pp Go.Proofs Go.Proofs.S04
set_option maxRecDepth 100000
theorem SameW.trans {a b c : World} (h : SameW a b) (k : SameW b c) : SameW a c :=
  ⟨k.os.trans h.os, k.tape.trans h.tape, k.output.trans h.output, Nat.le_trans h.size k.size, fun i hi => (k.block i (Nat.lt_of_lt_of_le hi h.size)).trans (h.block i hi)⟩
theorem SameW.alloc (w : World) (o : Obj) : SameW w (w.alloc o) := ⟨rfl, rfl, rfl, by rw [al_size]; omega, fun b hb => by rw [al_get, if_neg (by omega)]⟩
theorem next_calls {W : World} (hg : Glob gam (memOf W)) :
    Calls Tryd.prog 24 #[.agg #[.int .i64 22, .int .i64 0, .int .i64 0, .int .i64 0, .int .i64 3, .int .i64 1, .slice none 0 0]] W fun e W' =>
      ∃ b st c, e = .returned (.slice (some ⟨b, st, none⟩) 2 c) ∧ W'.cell? ⟨b, st, none⟩ = some (.int .i64 1) ∧ b < W'.heap.size ∧ SameW W W' := by
  have I : Inv (FB (fun _ => none) []) W.heap.size W (memOf W) (fun _ => none) [] :=
    ⟨fun b y h => h, fun o y h => by simp [getO] at h, fun o o' y y' b h => by simp [getO] at h, fun o y b h => by simp [getO] at h, fun o y b h => by simp [getO] at h, fun o g h => by cases h⟩
  have hv := shape_Next_ok gam [] (a0 := ⟨22, 0, 0, 0, 3, 1, []⟩) (v0_6 := V.tr (.sl 0 true [])) (by rfl) next_plain
  refine (hv.2.2 W (memOf W) (fun _ => none) _ I hg rfl (fun j c hj => ?_)).mono ?_
  · match j, hj with
    | 0, hj =>
      simp at hj; subst hj
      refine .agg _ _ rfl (fun j c hj => ?_)
      match j, hj with
      | 0, hj => simp at hj; subst hj; exact .tr (.lit _ rfl)
      | 1, hj => simp at hj; subst hj; exact .tr (.lit _ rfl)
      | 2, hj => simp at hj; subst hj; exact .tr (.lit _ rfl)
      | 3, hj => simp at hj; subst hj; exact .tr (.lit _ rfl)
      | 4, hj => simp at hj; subst hj; exact .tr (.lit _ rfl)
      | 5, hj => simp at hj; subst hj; exact .tr (.lit _ rfl)
      | 6, hj => simp at hj; subst hj; exact .tr (.nil _ _ _ _ (by simp))
      | j + 7, hj => simp at hj
    | j + 1, hj => simp at hj
  · rintro e w' ⟨r, M', G', rfl, hM, _, hr, I2, fr, _⟩
    have hx : getO ([] ++ [some (O.row 1 0 (List.map (eI .i64) [1, 3]))]) 0 = some (O.row 1 0 (List.map eN [1, 3])) := rfl
    obtain ⟨b, st, ri, f, h1, h2, h3, h4, h5, h6, h7, _⟩ := row_put I2 hx (by simp)
    obtain ⟨a, rfl, hra⟩ := row_slice (o := 0) (ver := 0) (len := 2) hr h1 h2
    have h7' : 2 ≤ ri.cap := by simpa using h7
    obtain ⟨b', st', e1, e2⟩ := hra (by omega)
    rw [h3] at e1; cases e1
    rw [Nat.zero_mul, Nat.add_zero] at e2
    subst e2
    refine ⟨b, st, _, rfl, (h5 0 (by simp)).1, h6, fr.os, fr.tape, fr.output, fr.size, fun b hb => fr.block b hb ?_⟩
    rintro ⟨o, y, h, _⟩
    simp [getO] at h
end Go.Pf
end
section
/- The fixed fact of the laws of shapes: its walk. -/
namespace Go.Pf
open Go Go.Ab Go.Pp Go.Proofs Go.Proofs.S04
set_option maxRecDepth 100000
theorem SameW.refl' (w : World) : SameW w w := ⟨rfl, rfl, rfl, Nat.le_refl _, fun _ _ => rfl⟩
def allocs (w : World) (l : List Obj) : World := l.foldl World.alloc w
theorem allocs_size : ∀ (l : List Obj) (w : World), (allocs w l).heap.size = w.heap.size + l.length
  | [], w => rfl
  | o :: l, w => by
    have := allocs_size l (w.alloc o)
    rw [al_size] at this
    simp only [allocs, List.foldl_cons, List.length_cons] at *
    omega
theorem allocs_old : ∀ (l : List Obj) (w : World) (i : Nat), i < w.heap.size → (allocs w l).heap[i]? = w.heap[i]?
  | [], w, i, h => rfl
  | o :: l, w, i, h => by
    have := allocs_old l (w.alloc o) i (by rw [al_size]; omega)
    rw [al_get, if_neg (by omega)] at this
    exact this
theorem allocs_get : ∀ (l : List Obj) (w : World) (i : Nat), i < l.length → (allocs w l).heap[w.heap.size + i]? = l[i]?
  | [], w, i, h => by simp at h
  | o :: l, w, 0, h => by
    have := allocs_old l (w.alloc o) w.heap.size (by rw [al_size]; omega)
    rw [al_get, if_pos rfl] at this
    exact this
  | o :: l, w, i + 1, h => by
    have := allocs_get l (w.alloc o) i (by simpa using h)
    rw [al_size] at this
    rw [show w.heap.size + (i + 1) = w.heap.size + 1 + i by omega]
    exact this
theorem allocs_same (l : List Obj) (w : World) : SameW w (allocs w l) := by
  induction l generalizing w with
  | nil => exact SameW.refl' w
  | cons o l ih => exact SameW.trans (SameW.alloc w o) (ih _)
def objsA (n : Nat) : List Obj :=
  let t := fun (m : Nat) (op : Int) => [Obj.cells #[.slice (some ⟨m + 5, 0, none⟩) 1 1] 24, .cells #[.int .i64 0] 3, .cells #[.int .i64 (-1)] 3,
    .cells #[.int .i64 1, .int .i64 0, .int .i64 0, .int .i64 0, .int .i64 5, .int .i64 0, .slice none 0 0, .int .i64 op, .int .i64 0, .int .i64 0, .int .i64 0, .int .i64 0, .int .i64 0, .slice none 0 0] 35,
    .cells #[.slice (some ⟨m + 3, 0, none⟩) 2 2] 44,
    .cells #[.slice (some ⟨m + 1, 0, none⟩) 1 1, .slice (some ⟨m + 2, 0, none⟩) 1 1, .int .i64 0, .int .i64 0, .slice (some ⟨m + 4, 0, none⟩) 1 1] 31,
    .cells #[.slice (some ⟨m + 5, 0, none⟩) 1 1] 24]
  t n 23 ++ t (n + 7) 21
theorem cell_heap {w : World} {b : Nat} {arr : Array Value} {T : TypeId} {fr : Nat × Nat} (h : w.heap[b]? = some (.cells arr T fr)) (off : Nat) : w.cell? ⟨b, off, none⟩ = arr[off]? := by
  simp [World.cell?, h]
theorem cell_same {w w' : World} (h : SameW w w') {b off : Nat} (hb : b < w.heap.size) : w'.cell? ⟨b, off, none⟩ = w.cell? ⟨b, off, none⟩ := by
  unfold World.cell?
  simp only [h.block b hb]
structure Facts (w w1 : World) : Prop where
  p : w1.cell? ⟨w.heap.size + 6, 0, none⟩ = some (.slice (some ⟨w.heap.size + 5, 0, none⟩) 1 1)
  q : w1.cell? ⟨w.heap.size + 13, 0, none⟩ = some (.slice (some ⟨w.heap.size + 12, 0, none⟩) 1 1)
  t1 : TinyAt w1 (w.heap.size + 1) 23
  t2 : TinyAt w1 (w.heap.size + 8) 21
  s : SameW w w1
  n : w.heap.size + 14 ≤ w1.heap.size
theorem Facts.same {w w1 w2 : World} (h : Facts w w1) (hs : SameW w1 w2) : Facts w w2 :=
  ⟨by rw [cell_same hs (by have := h.n; omega)]; exact h.p, by rw [cell_same hs (by have := h.n; omega)]; exact h.q, h.t1.same hs, h.t2.same hs, SameW.trans h.s hs, Nat.le_trans h.n hs.size⟩
theorem facts0 (w : World) : Facts w (allocs w (objsA w.heap.size)) := by
  have g := fun i hi => allocs_get (objsA w.heap.size) w i hi
  exact ⟨by rw [cell_heap (g 6 (by simp [objsA]))]; rfl, by rw [cell_heap (g 13 (by simp [objsA]))]; rfl, ⟨g 1 (by simp [objsA]), g 2 (by simp [objsA]), g 3 (by simp [objsA]), g 4 (by simp [objsA]), g 5 (by simp [objsA])⟩, ⟨g 8 (by simp [objsA]), g 9 (by simp [objsA]), g 10 (by simp [objsA]), g 11 (by simp [objsA]), g 12 (by simp [objsA])⟩, allocs_same _ w, by rw [allocs_size]; exact Nat.le_refl _⟩
set_option maxHeartbeats 400000 in
theorem alive_calls (w : World) (hg : Glob gam (memOf w)) : Calls Tryd.prog 9 #[] w fun e w' => e = .returned (.bool true) ∧ SameW w w' := by
  go_enter Tryd.func9, Tryd.ntmps9
  go_wp2_with (first
    | (go_at_call 34; refine (tiny_calls _).mono ?_; rintro e w' ⟨rfl, rfl⟩; unfold tinyW)
    | (go_at_call 24; refine (next_calls (Glob.same hg (facts0 w).s)).mono ?_; rintro e w1 ⟨b, st, c, rfl, hc, hb, hs⟩
       obtain ⟨p1, q1, t1, t2, s1, n1⟩ := (facts0 w).same hs; clear hs))
  have X := check_calls (Glob.same hg s1) t1 check_plain.1
  refine Calls.mono X ?_
  rintro e w2 ⟨rfl, hs⟩
  clear X
  obtain ⟨p2, q2, _, t2', s2, n2⟩ := Facts.same ⟨p1, q1, t1, t2, s1, n1⟩ hs
  have hc2 := (cell_same hs hb).trans hc
  have hb2 := Nat.lt_of_lt_of_le hb hs.size
  clear hs p1 q1 t1 t2 s1 n1 hc hb
  go_wp2_with (fail)
  have X := check_calls (Glob.same hg s2) t2' check_plain.2
  refine Calls.mono X ?_
  rintro e w3 ⟨rfl, hs⟩
  clear X
  have hc := (cell_same hs hb2).trans hc2
  have hb := Nat.lt_of_lt_of_le hb2 hs.size
  have s3 := SameW.trans s2 hs
  clear hs p2 q2 t2' s2 n2 hc2 hb2
  go_wp2_with (fail)
  have X := last_calls (Glob.same hg s3)
  refine Calls.mono X ?_
  rintro e w4 ⟨rfl, hs⟩
  clear X
  have hc2 := (cell_same hs hb).trans hc
  have s4 := SameW.trans s3 hs
  clear hs s3 hc hb
  go_wp2
  go_ret
  exact ⟨rfl, s4⟩
theorem Inv.same {F : Nat → Prop} {n0 : Nat} {w w' : World} {M : Mem} {G : Gh} {ob : OT} (I : Inv F n0 w M G ob) (hs : SameW w w') : Inv F n0 w' M G ob :=
  ⟨fun b x hb => by rw [hs.block b (I.memlt hb)]; exact I.mem b x hb, fun o x hx => (I.obj o x hx).mono (Mle.refl _) (Gle.refl _) rfl (fun b hb => hs.block b (I.lt hx hb)), I.dis, I.off, I.own, I.dom⟩
theorem portolanlaw04_alive_ok (γ : GT) (ob : OT) {r : Bool} (h : portolanlaw04_alive = some r) : Valid (Lx γ) 9 [] ob (vbool r) ob := by
  cases h
  refine ⟨⟨⟨Tryd.f9, Tryd.func9, by kernel_rfl, rfl⟩⟩, Nat.le_refl _, fun w M G rs I hg hl ha => ?_⟩
  have : rs = #[] := Array.eq_empty_of_size_eq_zero hl.symm
  subst this
  refine (alive_calls w (hg.mono fun b x hb => I.mem b x hb)).mono ?_
  rintro e w' ⟨rfl, hs⟩
  exact ⟨_, M, G, rfl, Mle.refl _, Gle.refl _, .tr (.lit _ rfl), Inv.same I hs, ⟨hs.os, hs.tape, hs.output, hs.size, fun b hb _ => hs.block b hb⟩, fun _ _ h => h⟩
end Go.Pf
end
section
set_option maxRecDepth 100000
namespace Go.Pf
open Go Go.Ab Go.Pp Go.Proofs Go.Proofs.S04
attribute [local go_sem] Lxτ Lxγ gam0 Int.toNat_natCast  eI eB eS e_Ins e_Block e_Func e_Prog e_code_writer e_code_reader e_Edge

end Go.Pf
end
section
set_option maxRecDepth 100000
namespace Go.Pf
open Go Go.Ab Go.Pp Go.Proofs Go.Proofs.S04
attribute [local go_sem] Lxτ Lxγ gam0 Int.toNat_natCast List.append_eq List.cons_append List.nil_append tau3 tau22 tau24 tau28 tau29 tau31 tau35 tau42 tau44 eI eB eS e_Ins e_Block e_Func e_Prog e_code_writer e_code_reader e_Edge
set_option maxHeartbeats 1000000 in
theorem portolanref03_Great_ok (γ : GT) (ob : OT) {a0 : Prog} {v0_0 : V} (hv0_0 : rdK (getO ob) 5 v0_0 = some (List.map e_Func a0.Funcs)) {r : Bool} (h : portolanref03_Great a0 = some r) :
  Valid (Lx γ) 10 [V.agg [v0_0]] ob (vbool r) ob := by
 refine valid_X (lx_ok γ) (fn := Tryd.f10) (rs := [.tmp 2]) Tryd.func10 (by kernel_rfl) rfl rfl Tryd.ntmps10 rfl (by simp) fun hb hob => ?_
 have hq := rd4 hv0_0
 rw [portolanref03_Great] at h
 refine X_sr (lx_ok γ) ?_
 simp -implicitDefEqProofs only [go_sem, seval, hq]
 refine X_sr (lx_ok γ) ?_
 simp -implicitDefEqProofs only [go_sem, seval, hq]
 refine X_seq ?_
 refine X_sr (lx_ok γ) ?_
 simp -implicitDefEqProofs only [go_sem, seval, hq]
 refine X_jq (J := fun as1 ob1 => ∃ (x1 : Int), portolanref03_Great.k1 x1 = some r ∧ [(3, vint .i64 x1)] = as1 ∧ ob = ob1) ?_ ?_
 ·rintro as1 ob1 ⟨x1, h, rfl, rfl⟩
  rw [portolanref03_Great.k1] at h
  simp -implicitDefEqProofs only [go_sem, seval, hq]
  refine X_sr (lx_ok γ) ?_
  simp -implicitDefEqProofs only [go_sem, seval, hq]
  obtain rfl := sI h
  refine X_ret ?_
  simp -implicitDefEqProofs only [go_sem, seval, hq]
  exact Rt.mv1 (BaseR.refl hob) (by simp) (vS)
 ·refine X_block ?_
  obtain ⟨lr1, hl1, hk1, hr1⟩ := aft2 h
  refine X_forN hl1 (fun (i1 : Nat) (s : Int) as1 ob1 => [(1, V.ref ob.length 0), (3, vint .i64 s), (4, vint .i64 (i1 : Int))] = as1 ∧ ob ++ [some (O.box [v0_0])] = ob1) ⟨_, _, ?_, rfl, rfl⟩ ?_ ?_
  ·exact To.mv [(0, 0)] (BaseR.refl hob) (by simp) (by decide) (by simp only [go_sem]; exact ⟨VM.refA (j := 0) (t := 0) rfl, vS, VM.eqv (by simp) (by simp)⟩) ⟨⟨_, rfl, OM.box _ _ ⟨VM.self (by simpa using Bd.of_rdK hv0_0), trivial⟩⟩, trivial⟩
  ·rintro i1 x1 o1 hi1 hw1 h ho1 as1 ob1 ⟨rfl, rfl⟩
   rw [portolanref03_Great.b1] at h
   refine X_seq ?_
   refine X_sr (lx_ok γ) ?_
   simp -implicitDefEqProofs only [go_sem, seval, hi1, hq]
   cases f1 : decide (x1 ≤ 3000)
   ·rw [if_neg (nF f1)] at h
    refine X_cond (lx_ok γ) ?_
    simp -implicitDefEqProofs only [go_sem, seval, hi1, f1, hq]
    obtain rfl := sI h
    have h := hk1 _ (.inr (ho1 (fun _ hs => nomatch hs)))
    refine X_exit ?_
    try simp -implicitDefEqProofs only [go_sem, ↓reduceIte, Nat.reduceEqDiff, reduceCtorEq]
    refine kJ_in ?_ ⟨x1, h, rfl, rfl⟩
    exact To.mv0 (BaseR.refl hob) (by simp) (by simp only [go_sem]; exact vS)
   ·rw [if_pos f1] at h
    refine X_cond (lx_ok γ) ?_
    simp -implicitDefEqProofs only [go_sem, seval, hi1, f1, hq]
    refine X_skip ?_
    try simp -implicitDefEqProofs only [go_sem]
    refine X_seq ?_
    refine X_block ?_
    refine X_sr (lx_ok γ) ?_
    obtain ⟨x3, f2, h⟩ := bindE h
    obtain ⟨f3, f4⟩ := ixL_nat f2
    have f5 : (0 : Int) ≤ (i1 : Int) := Int.natCast_nonneg _
    simp -implicitDefEqProofs only [go_sem, seval, hi1, f1, hq, f3, f4, f5]
    refine X_sr (lx_ok γ) ?_
    simp -implicitDefEqProofs only [go_sem, seval, hi1, f1, hq]
    refine X_sr (lx_ok γ) ?_
    simp -implicitDefEqProofs only [go_sem, seval, hi1, f1, hq]
    refine X_jq (J := fun as1 ob1 => ∃ (x4 : Int), portolanref03_Great.k2 x4 = some o1 ∧ [(1, V.ref ob.length 0), (3, vint .i64 x4), (4, vint .i64 (i1 : Int))] = as1 ∧ ob ++ [some (O.box [v0_0])] = ob1) ?_ ?_
    ·rintro as1 ob1 ⟨x4, h, rfl, rfl⟩
     rw [portolanref03_Great.k2] at h
     simp -implicitDefEqProofs only [go_sem, seval, hi1, f1, hq]
     refine X_reg (lx_ok γ) ?_
     obtain rfl := sI h
     simp -implicitDefEqProofs only [go_sem, seval, hi1, f1, hq]
     refine kR_in rfl ?_ ⟨rfl, rfl⟩
     exact To.mv [(0, 0)] (BaseR.refl hob) (by simp) (by decide) (by simp only [go_sem]; exact ⟨VM.refA (j := 0) (t := 0) rfl, vS, VM.eqv (by rw [hw1]) (by simp)⟩) ⟨⟨_, rfl, OM.box _ _ ⟨VM.self (by simpa using Bd.of_rdK hv0_0), trivial⟩⟩, trivial⟩
    ·refine X_block ?_
     obtain ⟨lr2, hl2, hk2, hr2⟩ := aft2 h
     refine X_forN hl2 (fun (i2 : Nat) (s : Int) as1 ob1 => [(1, V.ref ob.length 0), (3, vint .i64 s), (4, vint .i64 (i1 : Int)), (5, V.ref (ob.length + 1) 0), (6, vint .i64 (i2 : Int))] = as1 ∧ ob ++ [some (O.box [v0_0]), some (O.box [V.tr (.sl 1 false (List.map (eI .i64) x3.Kinds)), V.tr (.sl 1 false (List.map (eI .i64) x3.Base)), vint .i64 x3.Params, vint .i64 x3.Result, V.tr (.sl 1 false (List.map e_Block x3.Blocks))])] = ob1) ⟨_, _, ?_, rfl, rfl⟩ ?_ ?_
     ·exact To.mv [(0, 0), (1, 0)] (BaseR.refl hob) (by simp) (by decide) (by simp only [go_sem]; exact ⟨VM.refA (j := 0) (t := 0) rfl, vS, vS, VM.refA (j := 1) (t := 1) rfl, VM.eqv (by simp) (by simp)⟩) ⟨⟨_, rfl, OM.box _ _ ⟨VM.self (by simpa using Bd.of_rdK hv0_0), trivial⟩⟩, ⟨_, rfl, OM.box _ _ ⟨vS, vS, vS, vS, vS, trivial⟩⟩, trivial⟩
     ·rintro i2 x4 o2 hi2 hw2 h ho2 as1 ob1 ⟨rfl, rfl⟩
      rw [portolanref03_Great.b2] at h
      refine X_seq ?_
      refine X_sr (lx_ok γ) ?_
      simp -implicitDefEqProofs only [go_sem, seval, hi1, f1, hi2, hq]
      cases f6 : decide (x4 ≤ 3000)
      ·rw [if_neg (nF f6)] at h
       refine X_cond (lx_ok γ) ?_
       simp -implicitDefEqProofs only [go_sem, seval, hi1, f1, hi2, f6, hq]
       obtain rfl := sI h
       have h := hk2 _ (.inr (ho2 (fun _ hs => nomatch hs)))
       refine X_exit ?_
       try simp -implicitDefEqProofs only [go_sem, ↓reduceIte, Nat.reduceEqDiff, reduceCtorEq]
       refine kJ_in ?_ ⟨x4, h, rfl, rfl⟩
       exact To.mv [(0, 0)] (BaseR.refl hob) (by simp) (by decide) (by simp only [go_sem]; exact ⟨VM.refA (j := 0) (t := 0) rfl, vS, vS⟩) ⟨⟨_, rfl, OM.box _ _ ⟨VM.self (by simpa using Bd.of_rdK hv0_0), trivial⟩⟩, trivial⟩
      ·rw [if_pos f6] at h
       refine X_cond (lx_ok γ) ?_
       simp -implicitDefEqProofs only [go_sem, seval, hi1, f1, hi2, f6, hq]
       refine X_skip ?_
       try simp -implicitDefEqProofs only [go_sem]
       refine X_seq ?_
       refine X_block ?_
       refine X_sr (lx_ok γ) ?_
       obtain ⟨x6, f7, h⟩ := bindE h
       obtain ⟨f8, f9⟩ := ixL_nat f7
       have f10 : (0 : Int) ≤ (i2 : Int) := Int.natCast_nonneg _
       simp -implicitDefEqProofs only [go_sem, seval, hi1, f1, hi2, f6, hq, f8, f9, f10]
       refine X_sr (lx_ok γ) ?_
       simp -implicitDefEqProofs only [go_sem, seval, hi1, f1, hi2, f6, hq]
       refine X_jq (J := fun as1 ob1 => ∃ (x7 : Int), portolanref03_Great.k3 x7 = some o2 ∧ [(1, V.ref ob.length 0), (3, vint .i64 x7), (4, vint .i64 (i1 : Int)), (5, V.ref (ob.length + 1) 0), (6, vint .i64 (i2 : Int))] = as1 ∧ ob ++ [some (O.box [v0_0]), some (O.box [V.tr (.sl 1 false (List.map (eI .i64) x3.Kinds)), V.tr (.sl 1 false (List.map (eI .i64) x3.Base)), vint .i64 x3.Params, vint .i64 x3.Result, V.tr (.sl 1 false (List.map e_Block x3.Blocks))])] = ob1) ?_ ?_
       ·rintro as1 ob1 ⟨x7, h, rfl, rfl⟩
        rw [portolanref03_Great.k3] at h
        simp -implicitDefEqProofs only [go_sem, seval, hi1, f1, hi2, f6, hq]
        refine X_reg (lx_ok γ) ?_
        obtain rfl := sI h
        simp -implicitDefEqProofs only [go_sem, seval, hi1, f1, hi2, f6, hq]
        refine kR_in rfl ?_ ⟨rfl, rfl⟩
        exact To.mv [(0, 0), (1, 0)] (BaseR.refl hob) (by simp) (by decide) (by simp only [go_sem]; exact ⟨VM.refA (j := 0) (t := 0) rfl, vS, vS, VM.refA (j := 1) (t := 1) rfl, VM.eqv (by rw [hw2]) (by simp)⟩) ⟨⟨_, rfl, OM.box _ _ ⟨VM.self (by simpa using Bd.of_rdK hv0_0), trivial⟩⟩, ⟨_, rfl, OM.box _ _ ⟨vS, vS, vS, vS, vS, trivial⟩⟩, trivial⟩
       ·refine X_block ?_
        obtain ⟨lr3, hl3, hk3, hr3⟩ := aft2 h
        refine X_while hl3 (fun (s : Int × Int) as1 ob1 => [(1, V.ref ob.length 0), (3, vint .i64 s.1), (4, vint .i64 (i1 : Int)), (5, V.ref (ob.length + 1) 0), (6, vint .i64 (i2 : Int)), (7, vint .i64 s.2)] = as1 ∧ ob ++ [some (O.box [v0_0]), some (O.box [V.tr (.sl 1 false (List.map (eI .i64) x3.Kinds)), V.tr (.sl 1 false (List.map (eI .i64) x3.Base)), vint .i64 x3.Params, vint .i64 x3.Result, V.tr (.sl 1 false (List.map e_Block x3.Blocks))])] = ob1) ⟨_, _, ?_, rfl, rfl⟩ ?_
        ·exact To.mv [(0, 0), (1, 0)] (BaseR.refl hob) (by simp) (by decide) (by simp only [go_sem]; exact ⟨VM.refA (j := 0) (t := 0) rfl, vS, vS, VM.refA (j := 1) (t := 1) rfl, vS, vS⟩) ⟨⟨_, rfl, OM.box _ _ ⟨VM.self (by simpa using Bd.of_rdK hv0_0), trivial⟩⟩, ⟨_, rfl, OM.box _ _ ⟨vS, vS, vS, vS, vS, trivial⟩⟩, trivial⟩
        ·rintro ⟨x7, x8⟩ o3 h ho3 as1 ob1 ⟨rfl, rfl⟩
         rw [portolanref03_Great.b3] at h
         refine X_seq ?_
         refine X_seq ?_
         refine X_jq (J := fun as1 ob1 => ∃ (x10 : Bool), portolanref03_Great.j1 x3 x7 x8 x10 i2 = some o3 ∧ [(1, V.ref ob.length 0), (3, vint .i64 x7), (4, vint .i64 (i1 : Int)), (5, V.ref (ob.length + 1) 0), (6, vint .i64 (i2 : Int)), (7, vint .i64 x8), (72, vbool x10)] = as1 ∧ ob ++ [some (O.box [v0_0]), some (O.box [V.tr (.sl 1 false (List.map (eI .i64) x3.Kinds)), V.tr (.sl 1 false (List.map (eI .i64) x3.Base)), vint .i64 x3.Params, vint .i64 x3.Result, V.tr (.sl 1 false (List.map e_Block x3.Blocks))])] = ob1) ?_ ?_
         ·rintro as1 ob1 ⟨x10, h, rfl, rfl⟩
          rw [portolanref03_Great.j1] at h
          simp -implicitDefEqProofs only [go_sem, seval, hi1, f1, hi2, f6, hq]
          cases f11 : x10
          ·rw [if_neg (nF f11)] at h
           refine X_cond (lx_ok γ) ?_
           simp -implicitDefEqProofs only [go_sem, seval, hi1, f1, hi2, f6, f11, hq]
           obtain rfl := sI h
           have h := hk3 _ (.inr (ho3 (fun _ hs => nomatch hs)))
           refine X_exit ?_
           try simp -implicitDefEqProofs only [go_sem, ↓reduceIte, Nat.reduceEqDiff, reduceCtorEq]
           refine kJ_in ?_ ⟨x7, h, rfl, rfl⟩
           exact To.mv [(0, 0), (1, 0)] (BaseR.refl hob) (by simp) (by decide) (by simp only [go_sem]; exact ⟨VM.refA (j := 0) (t := 0) rfl, vS, vS, VM.refA (j := 1) (t := 1) rfl, vS⟩) ⟨⟨_, rfl, OM.box _ _ ⟨VM.self (by simpa using Bd.of_rdK hv0_0), trivial⟩⟩, ⟨_, rfl, OM.box _ _ ⟨vS, vS, vS, vS, vS, trivial⟩⟩, trivial⟩
          ·rw [if_pos f11] at h
           refine X_cond (lx_ok γ) ?_
           simp -implicitDefEqProofs only [go_sem, seval, hi1, f1, hi2, f6, f11, hq]
           refine X_skip ?_
           try simp -implicitDefEqProofs only [go_sem]
           refine X_seq ?_
           refine X_block ?_
           refine X_reg (lx_ok γ) ?_
           obtain ⟨x11, f12, h⟩ := bindE h
           obtain ⟨f13, f14⟩ := ixL_nat f12
           have f15 : (0 : Int) ≤ (i2 : Int) := Int.natCast_nonneg _
           obtain ⟨x12, f16, h⟩ := bindE h
           obtain ⟨f17, f18, f19⟩ := ixL_some f16
           try simp only [Int.toNat_natCast, Int.reduceToNat] at f19
           simp -implicitDefEqProofs only [go_sem, seval, hi1, f1, hi2, f6, f11, hq, f13, f14, f15, f17, f18, f19]
           refine X_reg (lx_ok γ) ?_
           obtain rfl := sI h
           simp -implicitDefEqProofs only [go_sem, seval, hi1, f1, hi2, f6, f11, hq]
           refine kR_in rfl ?_ ⟨rfl, rfl⟩
           exact To.mv [(0, 0), (1, 0)] (BaseR.refl hob) (by simp) (by decide) (by simp only [go_sem]; exact ⟨VM.refA (j := 0) (t := 0) rfl, vS, vS, VM.refA (j := 1) (t := 1) rfl, vS, vS⟩) ⟨⟨_, rfl, OM.box _ _ ⟨VM.self (by simpa using Bd.of_rdK hv0_0), trivial⟩⟩, ⟨_, rfl, OM.box _ _ ⟨vS, vS, vS, vS, vS, trivial⟩⟩, trivial⟩
         ·refine X_reg (lx_ok γ) ?_
          obtain ⟨x13, f20, h⟩ := bindE h
          obtain ⟨f21, f22⟩ := ixL_nat f20
          have f23 : (0 : Int) ≤ (i2 : Int) := Int.natCast_nonneg _
          cases f24 : decide (x8 < (List.length x13.Code : Int))
          ·rw [if_neg (nF f24)] at h
           simp -implicitDefEqProofs only [go_sem, seval, hi1, f1, hi2, f6, f24, hq, f21, f22, f23]
           refine kJ_in ?_ ⟨false, h, rfl, rfl⟩
           exact To.mv [(0, 0), (1, 0)] (BaseR.refl hob) (by simp) (by decide) (by simp only [go_sem]; exact ⟨VM.refA (j := 0) (t := 0) rfl, vS, vS, VM.refA (j := 1) (t := 1) rfl, vS, vS, vS⟩) ⟨⟨_, rfl, OM.box _ _ ⟨VM.self (by simpa using Bd.of_rdK hv0_0), trivial⟩⟩, ⟨_, rfl, OM.box _ _ ⟨vS, vS, vS, vS, vS, trivial⟩⟩, trivial⟩
          ·rw [if_pos f24] at h
           simp -implicitDefEqProofs only [go_sem, seval, hi1, f1, hi2, f6, f24, hq, f21, f22, f23]
           refine kJ_in ?_ ⟨(decide (x7 ≤ 3000)), h, rfl, rfl⟩
           exact To.mv [(0, 0), (1, 0)] (BaseR.refl hob) (by simp) (by decide) (by simp only [go_sem]; exact ⟨VM.refA (j := 0) (t := 0) rfl, vS, vS, VM.refA (j := 1) (t := 1) rfl, vS, vS, vS⟩) ⟨⟨_, rfl, OM.box _ _ ⟨VM.self (by simpa using Bd.of_rdK hv0_0), trivial⟩⟩, ⟨_, rfl, OM.box _ _ ⟨vS, vS, vS, vS, vS, trivial⟩⟩, trivial⟩
     ·rintro i2 x4 hi2 hn2 as1 ob1 ⟨rfl, rfl⟩
      refine X_seq ?_
      refine X_sr (lx_ok γ) ?_
      simp -implicitDefEqProofs only [go_sem, seval, hi1, f1, hi2, hq]
      refine X_condF (lx_ok γ) rfl ?_
      have h := hk2 _ (.inl hn2)
      refine X_exit ?_
      try simp -implicitDefEqProofs only [go_sem, ↓reduceIte, Nat.reduceEqDiff, reduceCtorEq]
      refine kJ_in ?_ ⟨x4, h, rfl, rfl⟩
      exact To.mv [(0, 0)] (BaseR.refl hob) (by simp) (by decide) (by simp only [go_sem]; exact ⟨VM.refA (j := 0) (t := 0) rfl, vS, vS⟩) ⟨⟨_, rfl, OM.box _ _ ⟨VM.self (by simpa using Bd.of_rdK hv0_0), trivial⟩⟩, trivial⟩
  ·rintro i1 x1 hi1 hn1 as1 ob1 ⟨rfl, rfl⟩
   refine X_seq ?_
   refine X_sr (lx_ok γ) ?_
   simp -implicitDefEqProofs only [go_sem, seval, hi1, hq]
   refine X_condF (lx_ok γ) rfl ?_
   have h := hk1 _ (.inl hn1)
   refine X_exit ?_
   try simp -implicitDefEqProofs only [go_sem, ↓reduceIte, Nat.reduceEqDiff, reduceCtorEq]
   refine kJ_in ?_ ⟨x1, h, rfl, rfl⟩
   exact To.mv0 (BaseR.refl hob) (by simp) (by simp only [go_sem]; exact vS)
end Go.Pf
end
section
set_option maxRecDepth 100000
namespace Go.Pf
open Go Go.Ab Go.Pp Go.Proofs Go.Proofs.S04
attribute [local go_sem] Lxτ Lxγ gam0 Int.toNat_natCast List.append_eq List.cons_append List.nil_append tau3 tau4 tau22 tau24 tau28 tau29 tau31 tau32 tau35 tau42 tau44 eI eB eS e_Ins e_Block e_Func e_Prog e_code_writer e_code_reader e_Edge
set_option maxHeartbeats 1000000 in
theorem portolanlaw04_ShapeFirst_ok (γ : GT) (ob : OT) {a0 : Prog} {r : Bool} (h : portolanlaw04_ShapeFirst a0 = some r) :
  Valid (Lx γ) 6 [V.agg [V.tr (.sl 5 false (List.map e_Func a0.Funcs))]] ob (vbool r) ob := by
 refine valid_X (lx_ok γ) (fn := Tryd.f6) (rs := [.tmp 2]) Tryd.func6 (by kernel_rfl) rfl rfl Tryd.ntmps6 rfl (by simp) fun hb hob => ?_
 rw [portolanlaw04_ShapeFirst] at h
 refine X_sr (lx_ok γ) ?_
 simp -implicitDefEqProofs only [go_sem, seval]
 refine X_seq ?_
 refine X_sr (lx_ok γ) ?_
 obtain ⟨x1, f1, h⟩ := bindE h
 simp -implicitDefEqProofs only [go_sem, seval]
 refine callV_eq (portolanlaw04_alive_ok γ _  f1) rfl rfl ?_
 simp -implicitDefEqProofs only [go_sem, seval]
 cases f2 : x1
 ·rw [if_neg (nF f2)] at h
  refine X_cond (lx_ok γ) ?_
  simp -implicitDefEqProofs only [go_sem, seval, f2]
  refine X_sr (lx_ok γ) ?_
  simp -implicitDefEqProofs only [go_sem, seval, f2]
  obtain rfl := sI h
  refine X_ret ?_
  simp -implicitDefEqProofs only [go_sem, seval, f2]
  exact Rt.mv0 (BaseR.refl hob) (by simp) (vS)
 ·rw [if_pos f2] at h
  refine X_cond (lx_ok γ) ?_
  simp -implicitDefEqProofs only [go_sem, seval, f2]
  refine X_skip ?_
  try simp -implicitDefEqProofs only [go_sem]
  refine X_seq ?_
  refine X_seq ?_
  refine X_jq (J := fun as1 ob1 => ∃ (x3 : Bool), portolanlaw04_ShapeFirst.j1 a0 x3 = some r ∧ [(1, V.ref ob.length 0), (17, vbool x3)] = as1 ∧ ob ++ [some (O.box [V.tr (.sl 5 false (List.map e_Func a0.Funcs))])] = ob1) ?_ ?_
  ·rintro as1 ob1 ⟨x3, h, rfl, rfl⟩
   rw [portolanlaw04_ShapeFirst.j1] at h
   simp -implicitDefEqProofs only [go_sem, seval, f2]
   cases f3 : x3
   ·rw [if_neg (nF f3)] at h
    refine X_cond (lx_ok γ) ?_
    simp -implicitDefEqProofs only [go_sem, seval, f2, f3]
    refine X_skip ?_
    try simp -implicitDefEqProofs only [go_sem]
    refine X_seq ?_
    refine X_sr (lx_ok γ) ?_
    simp -implicitDefEqProofs only [go_sem, seval, f2, f3]
    refine X_jq (J := fun as1 ob1 => portolanlaw04_ShapeFirst.k1 a0 = some r ∧ [(1, V.ref ob.length 0)] = as1 ∧ ob ++ [some (O.box [V.tr (.sl 5 false (List.map e_Func a0.Funcs))])] = ob1) ?_ ?_
    ·rintro as1 ob1 ⟨h, rfl, rfl⟩
     rw [portolanlaw04_ShapeFirst.k1] at h
     simp -implicitDefEqProofs only [go_sem, seval, f2, f3]
     refine X_sr (lx_ok γ) ?_
     obtain ⟨x5, f4, h⟩ := bindE h
     obtain ⟨f5, f6, f7⟩ := ixL_some f4
     try simp only [Int.toNat_natCast, Int.reduceToNat] at f7
     simp -implicitDefEqProofs only [go_sem, seval, f2, f3, f6, f7]
     obtain rfl := sI h
     refine X_ret ?_
     simp -implicitDefEqProofs only [go_sem, seval, f2, f3, f6, f7]
     exact Rt.mv0 (BaseR.refl hob) (by simp) (vS)
    ·refine X_block ?_
     obtain ⟨lr1, hl1, hk1, hr1⟩ := aft2 h
     refine X_forN hl1 (fun (i1 : Nat) (s : Unit) as1 ob1 => [(1, V.ref ob.length 0), (3, vint .i64 (i1 : Int))] = as1 ∧ ob ++ [some (O.box [V.tr (.sl 5 false (List.map e_Func a0.Funcs))])] = ob1) ⟨_, _, ?_, rfl, rfl⟩ ?_ ?_
     ·exact To.mv [(0, 0)] (BaseR.refl hob) (by simp) (by decide) (by simp only [go_sem]; exact ⟨VM.refA (j := 0) (t := 0) rfl, VM.eqv (by simp) (by simp)⟩) ⟨⟨_, rfl, OM.box _ _ ⟨vS, trivial⟩⟩, trivial⟩
     ·rintro i1 _ o1 hi1 hw1 h ho1 as1 ob1 ⟨rfl, rfl⟩
      rw [portolanlaw04_ShapeFirst.b1] at h
      refine X_seq ?_
      refine X_sr (lx_ok γ) ?_
      simp -implicitDefEqProofs only [go_sem, seval, f2, f3, hi1]
      refine X_cond (lx_ok γ) ?_
      simp -implicitDefEqProofs only [go_sem, seval, f2, f3, hi1]
      refine X_skip ?_
      try simp -implicitDefEqProofs only [go_sem]
      refine X_seq ?_
      refine X_block ?_
      refine X_sr (lx_ok γ) ?_
      obtain ⟨x6, f8, h⟩ := bindE h
      obtain ⟨f9, f10⟩ := ixL_nat f8
      have f11 : (0 : Int) ≤ (i1 : Int) := Int.natCast_nonneg _
      simp -implicitDefEqProofs only [go_sem, seval, f2, f3, hi1, f9, f10, f11]
      refine X_seq ?_
      refine X_seq ?_
      refine X_jq (J := fun as1 ob1 => ∃ (x8 : Bool), portolanlaw04_ShapeFirst.j2 x6 x8 = some o1 ∧ [(1, V.ref ob.length 0), (3, vint .i64 (i1 : Int)), (4, V.ref (ob.length + 1) 0), (41, vbool x8)] = as1 ∧ ob ++ [some (O.box [V.tr (.sl 5 false (List.map e_Func a0.Funcs))]), some (O.box [V.tr (.sl 1 false (List.map (eI .i64) x6.Kinds)), V.tr (.sl 1 false (List.map (eI .i64) x6.Base)), vint .i64 x6.Params, vint .i64 x6.Result, V.tr (.sl 1 false (List.map e_Block x6.Blocks))])] = ob1) ?_ ?_
      ·rintro as1 ob1 ⟨x8, h, rfl, rfl⟩
       rw [portolanlaw04_ShapeFirst.j2] at h
       simp -implicitDefEqProofs only [go_sem, seval, f2, f3, hi1]
       cases f12 : x8
       ·rw [if_neg (nF f12)] at h
        refine X_cond (lx_ok γ) ?_
        simp -implicitDefEqProofs only [go_sem, seval, f2, f3, hi1, f12]
        refine X_skip ?_
        try simp -implicitDefEqProofs only [go_sem]
        refine X_sr (lx_ok γ) ?_
        simp -implicitDefEqProofs only [go_sem, seval, f2, f3, hi1, f12]
        refine X_jq (J := fun as1 ob1 => portolanlaw04_ShapeFirst.k2 = some o1 ∧ [(1, V.ref ob.length 0), (3, vint .i64 (i1 : Int))] = as1 ∧ ob ++ [some (O.box [V.tr (.sl 5 false (List.map e_Func a0.Funcs))])] = ob1) ?_ ?_
        ·rintro as1 ob1 ⟨h, rfl, rfl⟩
         rw [portolanlaw04_ShapeFirst.k2] at h
         simp -implicitDefEqProofs only [go_sem, seval, f2, f3, hi1, f12]
         refine X_reg (lx_ok γ) ?_
         obtain rfl := sI h
         simp -implicitDefEqProofs only [go_sem, seval, f2, f3, hi1, f12]
         refine kR_in rfl ?_ ⟨rfl, rfl⟩
         exact To.mv [(0, 0)] (BaseR.refl hob) (by simp) (by decide) (by simp only [go_sem]; exact ⟨VM.refA (j := 0) (t := 0) rfl, VM.eqv (by rw [hw1]) (by simp)⟩) ⟨⟨_, rfl, OM.box _ _ ⟨vS, trivial⟩⟩, trivial⟩
        ·refine X_block ?_
         obtain ⟨lr2, hl2, hk2, hr2⟩ := aft2 h
         refine X_forN hl2 (fun (i2 : Nat) (s : Unit) as1 ob1 => [(1, V.ref ob.length 0), (3, vint .i64 (i1 : Int)), (4, V.ref (ob.length + 1) 0), (5, vint .i64 (i2 : Int))] = as1 ∧ ob ++ [some (O.box [V.tr (.sl 5 false (List.map e_Func a0.Funcs))]), some (O.box [V.tr (.sl 1 false (List.map (eI .i64) x6.Kinds)), V.tr (.sl 1 false (List.map (eI .i64) x6.Base)), vint .i64 x6.Params, vint .i64 x6.Result, V.tr (.sl 1 false (List.map e_Block x6.Blocks))])] = ob1) ⟨_, _, ?_, rfl, rfl⟩ ?_ ?_
         ·exact To.mv [(0, 0), (1, 0)] (BaseR.refl hob) (by simp) (by decide) (by simp only [go_sem]; exact ⟨VM.refA (j := 0) (t := 0) rfl, vS, VM.refA (j := 1) (t := 1) rfl, VM.eqv (by simp) (by simp)⟩) ⟨⟨_, rfl, OM.box _ _ ⟨vS, trivial⟩⟩, ⟨_, rfl, OM.box _ _ ⟨vS, vS, vS, vS, vS, trivial⟩⟩, trivial⟩
         ·rintro i2 _ o2 hi2 hw2 h ho2 as1 ob1 ⟨rfl, rfl⟩
          rw [portolanlaw04_ShapeFirst.b2] at h
          refine X_seq ?_
          refine X_sr (lx_ok γ) ?_
          simp -implicitDefEqProofs only [go_sem, seval, f2, f3, hi1, f12, hi2]
          refine X_cond (lx_ok γ) ?_
          simp -implicitDefEqProofs only [go_sem, seval, f2, f3, hi1, f12, hi2]
          refine X_skip ?_
          try simp -implicitDefEqProofs only [go_sem]
          refine X_seq ?_
          refine X_block ?_
          refine X_sr (lx_ok γ) ?_
          obtain ⟨x10, f13, h⟩ := bindE h
          obtain ⟨f14, f15⟩ := ixL_nat f13
          have f16 : (0 : Int) ≤ (i2 : Int) := Int.natCast_nonneg _
          simp -implicitDefEqProofs only [go_sem, seval, f2, f3, hi1, f12, hi2, f14, f15, f16]
          refine X_seq ?_
          refine X_seq ?_
          refine X_jq (J := fun as1 ob1 => ∃ (x12 : Bool), portolanlaw04_ShapeFirst.j3 x10 x12 = some o2 ∧ [(1, V.ref ob.length 0), (3, vint .i64 (i1 : Int)), (4, V.ref (ob.length + 1) 0), (5, vint .i64 (i2 : Int)), (6, V.tr (.sl 7 false (List.map e_Ins x10.Code))), (68, vbool x12)] = as1 ∧ ob ++ [some (O.box [V.tr (.sl 5 false (List.map e_Func a0.Funcs))]), some (O.box [V.tr (.sl 1 false (List.map (eI .i64) x6.Kinds)), V.tr (.sl 1 false (List.map (eI .i64) x6.Base)), vint .i64 x6.Params, vint .i64 x6.Result, V.tr (.sl 1 false (List.map e_Block x6.Blocks))])] = ob1) ?_ ?_
          ·rintro as1 ob1 ⟨x12, h, rfl, rfl⟩
           rw [portolanlaw04_ShapeFirst.j3] at h
           simp -implicitDefEqProofs only [go_sem, seval, f2, f3, hi1, f12, hi2]
           cases f17 : x12
           ·rw [if_neg (nF f17)] at h
            refine X_cond (lx_ok γ) ?_
            simp -implicitDefEqProofs only [go_sem, seval, f2, f3, hi1, f12, hi2, f17]
            refine X_skip ?_
            try simp -implicitDefEqProofs only [go_sem]
            refine X_sr (lx_ok γ) ?_
            obtain ⟨x13, f18, h⟩ := bindE h
            obtain ⟨f19, f20, f21⟩ := ixL_some f18
            try simp only [Int.toNat_natCast, Int.reduceToNat] at f21
            obtain ⟨x14, f22, h⟩ := bindE h
            simp -implicitDefEqProofs only [go_sem, seval, f2, f3, hi1, f12, hi2, f17, f19, f20, f21]
            refine callV_eq (shape_Next_ok γ _ (by simp -implicitDefEqProofs only [go_sem, seval, f2, f3, hi1, f12, hi2, f17, f19, f20, f21]; try rfl) f22) rfl rfl ?_
            simp -implicitDefEqProofs only [go_sem, seval, f2, f3, hi1, f12, hi2, f17, f19, f20, f21]
            refine X_sr (lx_ok γ) ?_
            simp -implicitDefEqProofs only [go_sem, seval, f2, f3, hi1, f12, hi2, f17]
            refine X_jq (J := fun as1 ob1 => portolanlaw04_ShapeFirst.k3 = some o2 ∧ [(1, V.ref ob.length 0), (3, vint .i64 (i1 : Int)), (4, V.ref (ob.length + 1) 0), (5, vint .i64 (i2 : Int))] = as1 ∧ ob ++ [some (O.box [V.tr (.sl 5 false (List.map e_Func a0.Funcs))]), some (O.box [V.tr (.sl 1 false (List.map (eI .i64) x6.Kinds)), V.tr (.sl 1 false (List.map (eI .i64) x6.Base)), vint .i64 x6.Params, vint .i64 x6.Result, V.tr (.sl 1 false (List.map e_Block x6.Blocks))])] = ob1) ?_ ?_
            ·rintro as1 ob1 ⟨h, rfl, rfl⟩
             rw [portolanlaw04_ShapeFirst.k3] at h
             simp -implicitDefEqProofs only [go_sem, seval, f2, f3, hi1, f12, hi2, f17]
             refine X_reg (lx_ok γ) ?_
             obtain rfl := sI h
             simp -implicitDefEqProofs only [go_sem, seval, f2, f3, hi1, f12, hi2, f17]
             refine kR_in rfl ?_ ⟨rfl, rfl⟩
             exact To.mv [(0, 0), (1, 0)] (BaseR.refl hob) (by simp) (by decide) (by simp only [go_sem]; exact ⟨VM.refA (j := 0) (t := 0) rfl, vS, VM.refA (j := 1) (t := 1) rfl, VM.eqv (by rw [hw2]) (by simp)⟩) ⟨⟨_, rfl, OM.box _ _ ⟨vS, trivial⟩⟩, ⟨_, rfl, OM.box _ _ ⟨vS, vS, vS, vS, vS, trivial⟩⟩, trivial⟩
            ·refine X_block ?_
             obtain ⟨lr3, hl3, hk3, hr3⟩ := aft2 h
             refine X_forN hl3 (fun (i3 : Nat) (s : Unit) as1 ob1 => [(1, V.ref ob.length 0), (3, vint .i64 (i1 : Int)), (4, V.ref (ob.length + 1) 0), (5, vint .i64 (i2 : Int)), (7, V.row (ob.length + 2) 0 0 (List.length x14)), (8, vint .i64 (i3 : Int))] = as1 ∧ ob ++ [some (O.box [V.tr (.sl 5 false (List.map e_Func a0.Funcs))]), some (O.box [V.tr (.sl 1 false (List.map (eI .i64) x6.Kinds)), V.tr (.sl 1 false (List.map (eI .i64) x6.Base)), vint .i64 x6.Params, vint .i64 x6.Result, V.tr (.sl 1 false (List.map e_Block x6.Blocks))]), some (O.row 1 0 (List.map (eI .i64) x14))] = ob1) ⟨_, _, ?_, rfl, rfl⟩ ?_ ?_
             ·exact To.mv [(0, 0), (1, 0), (2, 0)] (BaseR.refl hob) (by simp) (by decide) (by simp only [go_sem]; exact ⟨VM.refA (j := 0) (t := 0) rfl, vS, VM.refA (j := 1) (t := 1) rfl, vS, VM.rowL (j := 2) (t := 2) rfl (by first | rfl | simp | simp_all | omega), VM.eqv (by simp) (by simp)⟩) ⟨⟨_, rfl, OM.box _ _ ⟨vS, trivial⟩⟩, ⟨_, rfl, OM.box _ _ ⟨vS, vS, vS, vS, vS, trivial⟩⟩, ⟨_, rfl, OM.row' (by first | rfl | simp_all)⟩, trivial⟩
             ·rintro i3 _ o3 hi3 hw3 h ho3 as1 ob1 ⟨rfl, rfl⟩
              rw [portolanlaw04_ShapeFirst.b3] at h
              refine X_seq ?_
              refine X_sr (lx_ok γ) ?_
              simp -implicitDefEqProofs only [go_sem, seval, f2, f3, hi1, f12, hi2, f17, hi3]
              refine X_cond (lx_ok γ) ?_
              simp -implicitDefEqProofs only [go_sem, seval, f2, f3, hi1, f12, hi2, f17, hi3]
              refine X_skip ?_
              try simp -implicitDefEqProofs only [go_sem]
              refine X_seq ?_
              refine X_block ?_
              refine X_sr (lx_ok γ) ?_
              obtain ⟨x16, f23, h⟩ := bindE h
              obtain ⟨f24, f25⟩ := ixL_nat f23
              have f26 : (0 : Int) ≤ (i3 : Int) := Int.natCast_nonneg _
              simp -implicitDefEqProofs only [go_sem, seval, f2, f3, hi1, f12, hi2, f17, hi3, f24, f25, f26]
              cases f27 : (x16 == 0)
              ·rw [if_neg (nF f27)] at h
               refine X_cond (lx_ok γ) ?_
               simp -implicitDefEqProofs only [go_sem, seval, f2, f3, hi1, f12, hi2, f17, hi3, f27, f24, f25, f26]
               refine X_skip ?_
               try simp -implicitDefEqProofs only [go_sem]
               refine X_reg (lx_ok γ) ?_
               obtain rfl := sI h
               simp -implicitDefEqProofs only [go_sem, seval, f2, f3, hi1, f12, hi2, f17, hi3, f27]
               refine kR_in rfl ?_ ⟨rfl, rfl⟩
               exact To.mv [(0, 0), (1, 0), (2, 0)] (BaseR.refl hob) (by simp) (by decide) (by simp only [go_sem]; exact ⟨VM.refA (j := 0) (t := 0) rfl, vS, VM.refA (j := 1) (t := 1) rfl, vS, VM.rowL (j := 2) (t := 2) rfl (by first | rfl | simp | simp_all | omega), VM.eqv (by rw [hw3]) (by simp)⟩) ⟨⟨_, rfl, OM.box _ _ ⟨vS, trivial⟩⟩, ⟨_, rfl, OM.box _ _ ⟨vS, vS, vS, vS, vS, trivial⟩⟩, ⟨_, rfl, OM.row' (by first | rfl | simp_all)⟩, trivial⟩
              ·rw [if_pos f27] at h
               refine X_cond (lx_ok γ) ?_
               simp -implicitDefEqProofs only [go_sem, seval, f2, f3, hi1, f12, hi2, f17, hi3, f27, f24, f25, f26]
               refine X_sr (lx_ok γ) ?_
               simp -implicitDefEqProofs only [go_sem, seval, f2, f3, hi1, f12, hi2, f17, hi3, f27]
               obtain rfl := sI h
               have h := hr3 _ (ho3 (fun _ hs => nomatch hs))
               obtain rfl := sI h
               have h := hr2 _ (ho2 (fun _ hs => nomatch hs))
               obtain rfl := sI h
               have h := hr1 _ (ho1 (fun _ hs => nomatch hs))
               obtain rfl := sI h
               refine X_ret ?_
               simp -implicitDefEqProofs only [go_sem, seval, f2, f3, hi1, f12, hi2, f17, hi3, f27]
               exact Rt.mv0 (BaseR.refl hob) (by simp) (vS)
             ·rintro i3 _ hi3 hn3 as1 ob1 ⟨rfl, rfl⟩
              refine X_seq ?_
              refine X_sr (lx_ok γ) ?_
              simp -implicitDefEqProofs only [go_sem, seval, f2, f3, hi1, f12, hi2, f17, hi3]
              refine X_cond (lx_ok γ) ?_
              simp -implicitDefEqProofs only [go_sem, seval, f2, f3, hi1, f12, hi2, f17, hi3]
              have h := hk3 _ (.inl hn3)
              refine X_exit ?_
              try simp -implicitDefEqProofs only [go_sem, ↓reduceIte, Nat.reduceEqDiff, reduceCtorEq]
              refine kJ_in ?_ ⟨h, rfl, rfl⟩
              exact To.mv [(0, 0), (1, 0)] (BaseR.refl hob) (by simp) (by decide) (by simp only [go_sem]; exact ⟨VM.refA (j := 0) (t := 0) rfl, vS, VM.refA (j := 1) (t := 1) rfl, vS⟩) ⟨⟨_, rfl, OM.box _ _ ⟨vS, trivial⟩⟩, ⟨_, rfl, OM.box _ _ ⟨vS, vS, vS, vS, vS, trivial⟩⟩, trivial⟩
           ·rw [if_pos f17] at h
            refine X_cond (lx_ok γ) ?_
            simp -implicitDefEqProofs only [go_sem, seval, f2, f3, hi1, f12, hi2, f17]
            refine X_sr (lx_ok γ) ?_
            simp -implicitDefEqProofs only [go_sem, seval, f2, f3, hi1, f12, hi2, f17]
            obtain rfl := sI h
            have h := hr2 _ (ho2 (fun _ hs => nomatch hs))
            obtain rfl := sI h
            have h := hr1 _ (ho1 (fun _ hs => nomatch hs))
            obtain rfl := sI h
            refine X_ret ?_
            simp -implicitDefEqProofs only [go_sem, seval, f2, f3, hi1, f12, hi2, f17]
            exact Rt.mv0 (BaseR.refl hob) (by simp) (vS)
          ·refine X_reg (lx_ok γ) ?_
           cases f28 : ((List.length x10.Code : Int) == 0)
           ·rw [if_neg (nF f28)] at h
            obtain ⟨x17, f29, h⟩ := bindE h
            obtain ⟨f30, f31, f32⟩ := ixL_some f29
            try simp only [Int.toNat_natCast, Int.reduceToNat] at f32
            obtain ⟨x18, f33, h⟩ := bindE h
            simp -implicitDefEqProofs only [go_sem, seval, f2, f3, hi1, f12, hi2, f28, f30, f31, f32]
            refine callV_eq (shape_Last_ok γ _  f33) rfl rfl ?_
            simp -implicitDefEqProofs only [go_sem, seval, f2, f3, hi1, f12, hi2, f28, f30, f31, f32]
            refine kJ_in ?_ ⟨(!x18), h, rfl, rfl⟩
            exact To.mv [(0, 0), (1, 0)] (BaseR.refl hob) (by simp) (by decide) (by simp only [go_sem]; exact ⟨VM.refA (j := 0) (t := 0) rfl, vS, VM.refA (j := 1) (t := 1) rfl, vS, vS, vS⟩) ⟨⟨_, rfl, OM.box _ _ ⟨vS, trivial⟩⟩, ⟨_, rfl, OM.box _ _ ⟨vS, vS, vS, vS, vS, trivial⟩⟩, trivial⟩
           ·rw [if_pos f28] at h
            simp -implicitDefEqProofs only [go_sem, seval, f2, f3, hi1, f12, hi2, f28]
            refine kJ_in ?_ ⟨true, h, rfl, rfl⟩
            exact To.mv [(0, 0), (1, 0)] (BaseR.refl hob) (by simp) (by decide) (by simp only [go_sem]; exact ⟨VM.refA (j := 0) (t := 0) rfl, vS, VM.refA (j := 1) (t := 1) rfl, vS, vS, vS⟩) ⟨⟨_, rfl, OM.box _ _ ⟨vS, trivial⟩⟩, ⟨_, rfl, OM.box _ _ ⟨vS, vS, vS, vS, vS, trivial⟩⟩, trivial⟩
         ·rintro i2 _ hi2 hn2 as1 ob1 ⟨rfl, rfl⟩
          refine X_seq ?_
          refine X_sr (lx_ok γ) ?_
          simp -implicitDefEqProofs only [go_sem, seval, f2, f3, hi1, f12, hi2]
          refine X_cond (lx_ok γ) ?_
          simp -implicitDefEqProofs only [go_sem, seval, f2, f3, hi1, f12, hi2]
          have h := hk2 _ (.inl hn2)
          refine X_exit ?_
          try simp -implicitDefEqProofs only [go_sem, ↓reduceIte, Nat.reduceEqDiff, reduceCtorEq]
          refine kJ_in ?_ ⟨h, rfl, rfl⟩
          exact To.mv [(0, 0)] (BaseR.refl hob) (by simp) (by decide) (by simp only [go_sem]; exact ⟨VM.refA (j := 0) (t := 0) rfl, vS⟩) ⟨⟨_, rfl, OM.box _ _ ⟨vS, trivial⟩⟩, trivial⟩
       ·rw [if_pos f12] at h
        refine X_cond (lx_ok γ) ?_
        simp -implicitDefEqProofs only [go_sem, seval, f2, f3, hi1, f12]
        refine X_sr (lx_ok γ) ?_
        simp -implicitDefEqProofs only [go_sem, seval, f2, f3, hi1, f12]
        obtain rfl := sI h
        have h := hr1 _ (ho1 (fun _ hs => nomatch hs))
        obtain rfl := sI h
        refine X_ret ?_
        simp -implicitDefEqProofs only [go_sem, seval, f2, f3, hi1, f12]
        exact Rt.mv0 (BaseR.refl hob) (by simp) (vS)
      ·refine X_reg (lx_ok γ) ?_
       cases f34 : ((List.length x6.Blocks : Int) == 0)
       ·rw [if_neg (nF f34)] at h
        simp -implicitDefEqProofs only [go_sem, seval, f2, f3, hi1, f34]
        refine kJ_in ?_ ⟨(decide ((List.length x6.Kinds : Int) < x6.Params)), h, rfl, rfl⟩
        exact To.mv [(0, 0), (1, 0)] (BaseR.refl hob) (by simp) (by decide) (by simp only [go_sem]; exact ⟨VM.refA (j := 0) (t := 0) rfl, vS, VM.refA (j := 1) (t := 1) rfl, vS⟩) ⟨⟨_, rfl, OM.box _ _ ⟨vS, trivial⟩⟩, ⟨_, rfl, OM.box _ _ ⟨vS, vS, vS, vS, vS, trivial⟩⟩, trivial⟩
       ·rw [if_pos f34] at h
        simp -implicitDefEqProofs only [go_sem, seval, f2, f3, hi1, f34]
        refine kJ_in ?_ ⟨true, h, rfl, rfl⟩
        exact To.mv [(0, 0), (1, 0)] (BaseR.refl hob) (by simp) (by decide) (by simp only [go_sem]; exact ⟨VM.refA (j := 0) (t := 0) rfl, vS, VM.refA (j := 1) (t := 1) rfl, vS⟩) ⟨⟨_, rfl, OM.box _ _ ⟨vS, trivial⟩⟩, ⟨_, rfl, OM.box _ _ ⟨vS, vS, vS, vS, vS, trivial⟩⟩, trivial⟩
     ·rintro i1 _ hi1 hn1 as1 ob1 ⟨rfl, rfl⟩
      refine X_seq ?_
      refine X_sr (lx_ok γ) ?_
      simp -implicitDefEqProofs only [go_sem, seval, f2, f3, hi1]
      refine X_cond (lx_ok γ) ?_
      simp -implicitDefEqProofs only [go_sem, seval, f2, f3, hi1]
      have h := hk1 _ (.inl hn1)
      refine X_exit ?_
      try simp -implicitDefEqProofs only [go_sem, ↓reduceIte, Nat.reduceEqDiff, reduceCtorEq]
      refine kJ_in ?_ ⟨h, rfl, rfl⟩
      exact To.mv [(0, 0)] (BaseR.refl hob) (by simp) (by decide) (by simp only [go_sem]; exact VM.refA (j := 0) (t := 0) rfl) ⟨⟨_, rfl, OM.box _ _ ⟨vS, trivial⟩⟩, trivial⟩
   ·rw [if_pos f3] at h
    refine X_cond (lx_ok γ) ?_
    simp -implicitDefEqProofs only [go_sem, seval, f2, f3]
    refine X_sr (lx_ok γ) ?_
    simp -implicitDefEqProofs only [go_sem, seval, f2, f3]
    obtain rfl := sI h
    refine X_ret ?_
    simp -implicitDefEqProofs only [go_sem, seval, f2, f3]
    exact Rt.mv0 (BaseR.refl hob) (by simp) (vS)
  ·refine X_reg (lx_ok γ) ?_
   obtain ⟨x19, f35, h⟩ := bindE h
   simp -implicitDefEqProofs only [go_sem, seval, f2]
   refine callV_eq (portolanref03_Great_ok γ _ (by simp -implicitDefEqProofs only [go_sem, seval, f2]; try rfl) f35) rfl rfl ?_
   cases f36 : x19
   ·rw [if_neg (nF f36)] at h
    obtain ⟨x20, f37, h⟩ := bindE h
    simp -implicitDefEqProofs only [go_sem, seval, f2, f36]
    refine callV_eq (shape_Check_ok γ _  f37) rfl rfl ?_
    simp -implicitDefEqProofs only [go_sem, seval, f2, f36]
    refine kJ_in ?_ ⟨(x20 != 0), h, rfl, rfl⟩
    exact To.mv [(0, 0)] (BaseR.refl hob) (by simp) (by decide) (by simp only [go_sem]; exact ⟨VM.refA (j := 0) (t := 0) rfl, vS⟩) ⟨⟨_, rfl, OM.box _ _ ⟨vS, trivial⟩⟩, trivial⟩
   ·rw [if_pos f36] at h
    simp -implicitDefEqProofs only [go_sem, seval, f2, f36]
    refine kJ_in ?_ ⟨true, h, rfl, rfl⟩
    exact To.mv [(0, 0)] (BaseR.refl hob) (by simp) (by decide) (by simp only [go_sem]; exact ⟨VM.refA (j := 0) (t := 0) rfl, vS⟩) ⟨⟨_, rfl, OM.box _ _ ⟨vS, trivial⟩⟩, trivial⟩
end Go.Pf
end
