/- Each function computes what its plain one says, part 2 -/
import Derived.Laws.Rows
import Derived.Lib.Walk
import Derived.OpenShut
import Derived.ProofKit
import Derived.WalkKit
import Derived.Test.YtcbbchfhfacbdaaDoorIK1
set_option linter.all false
section
/- The fixed fact of the laws of shapes: alive. -/
namespace Go.Pf
open Go Go.Ab Go.Pp Go.Proofs Go.Proofs.S04
set_option maxRecDepth 100000
def tinyW (w : World) : World :=
  (((((w.alloc (.cells #[.slice (some ⟨w.heap.size + 1 + 1 + 1 + 1 + 1, 0, none⟩) 1 1] 24)).alloc (.cells #[.int .i64 0] 3)).alloc (.cells #[.int .i64 (-1)] 3)).alloc
    (.cells #[.int .i64 1, .int .i64 0, .int .i64 0, .int .i64 0, .int .i64 5, .int .i64 0, .slice none 0 0, .int .i64 23, .int .i64 0, .int .i64 0, .int .i64 0, .int .i64 0, .int .i64 0, .slice none 0 0] 35)).alloc
    (.cells #[.slice (some ⟨w.heap.size + 1 + 1 + 1, 0, none⟩) 2 2] 44)).alloc
    (.cells #[.slice (some ⟨w.heap.size + 1, 0, none⟩) 1 1, .slice (some ⟨w.heap.size + 1 + 1, 0, none⟩) 1 1, .int .i64 0, .int .i64 0, .slice (some ⟨w.heap.size + 1 + 1 + 1 + 1, 0, none⟩) 1 1] 31)
theorem al_get (w : World) (o : Obj) (i : Nat) : (w.alloc o).heap[i]? = if i = w.heap.size then some o else w.heap[i]? := by
  simp only [World.alloc, Array.getElem?_push]
theorem al_size (w : World) (o : Obj) : (w.alloc o).heap.size = w.heap.size + 1 := by simp only [World.alloc, Array.size_push]
theorem tiny_calls (w : World) : Calls Tryd.prog 34 #[] w fun e w' => e = .returned (.agg #[.slice (some ⟨w.heap.size + 1 + 1 + 1 + 1 + 1, 0, none⟩) 1 1]) ∧ w' = tinyW w := by
  go_enter Tryd.func34, Tryd.ntmps34
  go_wp2
  refine bodyPost_ret (results_cell_row rfl _ _ w.heap.size 24 #[.slice (some ⟨w.heap.size + 1 + 1 + 1 + 1 + 1, 0, none⟩) 1 1] (0, 0) _ rfl (by rw [al_get, if_neg (by simp only [al_size]; omega), al_get, if_neg (by simp only [al_size]; omega), al_get, if_neg (by simp only [al_size]; omega), al_get, if_neg (by simp only [al_size]; omega), al_get, if_neg (by simp only [al_size]; omega), al_get, if_pos rfl]) Tryd.underlying24 rfl (by kernel_rfl)) rfl ?_
  exact ⟨rfl, rfl⟩

theorem TR_arr {M : Mem} {b : Nat} {arr : Array Value} {T : TypeId} {fr : Nat × Nat} {k n : Nat} {es : List (List Tr)} (hM : M b = some (.cells arr T fr)) (hn : es.length = n) (hk : ∀ e ∈ es, e.length = k) (hl : n * k = arr.size)
    (hT : ∀ i e j t, es[i]? = some e → e[j]? = some t → TR M t (arr.getD (i * k + j) undef)) : TR M (.sl k false es) (.slice (some ⟨b, 0, none⟩) n n) := by
  subst hn
  refine .sl k false es b 0 es.length (fun i j => arr.getD (i * k + j) undef) (by simp) (Nat.le_refl _) hk (fun i e j t hi hj => ?_) hT
  have hil := (List.getElem?_eq_some_iff.1 hi).1
  have hjl := (List.getElem?_eq_some_iff.1 hj).1
  have hke := hk e (List.mem_of_getElem? hi)
  have hlt : i * k + j < arr.size := by
    rw [← hl]
    have : (i + 1) * k ≤ es.length * k := Nat.mul_le_mul_right k hil
    rw [Nat.add_mul] at this; omega
  simp only [Mem.cell, hM, Nat.zero_add]
  rw [Array.getElem?_eq_getElem hlt]
  simp [Array.getD, hlt]
def insC : Ins := ⟨1, 0, 0, 0, 5, 0, []⟩
def insR (op : Int) : Ins := ⟨op, 0, 0, 0, 0, 0, []⟩
def progT (op : Int) : Prog := ⟨[⟨[0], [-1], 0, 0, [⟨[insC, insR op]⟩]⟩]⟩
/-- the blocks of a tiny program, from n on -/
structure TinyAt (w : World) (n : Nat) (op : Int) : Prop where
  h1 : w.heap[n]? = some (.cells #[.int .i64 0] 3)
  h2 : w.heap[n + 1]? = some (.cells #[.int .i64 (-1)] 3)
  h3 : w.heap[n + 2]? = some (.cells #[.int .i64 1, .int .i64 0, .int .i64 0, .int .i64 0, .int .i64 5, .int .i64 0, .slice none 0 0, .int .i64 op, .int .i64 0, .int .i64 0, .int .i64 0, .int .i64 0, .int .i64 0, .slice none 0 0] 35)
  h4 : w.heap[n + 3]? = some (.cells #[.slice (some ⟨n + 2, 0, none⟩) 2 2] 44)
  h5 : w.heap[n + 4]? = some (.cells #[.slice (some ⟨n, 0, none⟩) 1 1, .slice (some ⟨n + 1, 0, none⟩) 1 1, .int .i64 0, .int .i64 0, .slice (some ⟨n + 3, 0, none⟩) 1 1] 31)
theorem TinyAt.same {w w' : World} {n : Nat} {op : Int} (h : TinyAt w n op) (hs : SameW w w') : TinyAt w' n op := by
  have lt : ∀ {b : Nat} {y : Obj}, w.heap[b]? = some y → w'.heap[b]? = some y := fun {b y} hb => by rw [hs.block b (Array.getElem?_eq_some_iff.1 hb).1]; exact hb
  exact ⟨lt h.h1, lt h.h2, lt h.h3, lt h.h4, lt h.h5⟩
theorem TinyAt.tree {w : World} {n : Nat} {op : Int} (h : TinyAt w n op) : TR (memOf w) (.sl 5 false (List.map e_Func (progT op).Funcs)) (.slice (some ⟨n + 4, 0, none⟩) 1 1) := by
  have a1 : TR (memOf w) (.sl 1 false (List.map (eI .i64) [0])) (.slice (some ⟨n, 0, none⟩) 1 1) := TR_arr (M := memOf w) h.h1 rfl (by simp [eI]) rfl (fun i e j t hi hj => by
    rcases i with _ | i <;> simp [eI] at hi
    subst hi
    rcases j with _ | j <;> simp at hj
    subst hj; exact .lit _ rfl)
  have a2 : TR (memOf w) (.sl 1 false (List.map (eI .i64) [-1])) (.slice (some ⟨n + 1, 0, none⟩) 1 1) := TR_arr (M := memOf w) h.h2 rfl (by simp [eI]) rfl (fun i e j t hi hj => by
    rcases i with _ | i <;> simp [eI] at hi
    subst hi
    rcases j with _ | j <;> simp at hj
    subst hj; exact .lit _ rfl)
  have a3 : TR (memOf w) (.sl 7 false (List.map e_Ins [insC, insR op])) (.slice (some ⟨n + 2, 0, none⟩) 2 2) := TR_arr (M := memOf w) h.h3 rfl (by simp [e_Ins]) rfl (fun i e j t hi hj => by
    rcases i with _ | _ | i <;> simp [e_Ins, insC, insR] at hi
    · subst hi
      rcases j with _ | _ | _ | _ | _ | _ | _ | j <;> simp at hj
      all_goals subst hj
      all_goals first | exact .lit _ rfl | exact .nil _ _ _ _ (by simp)
    · subst hi
      rcases j with _ | _ | _ | _ | _ | _ | _ | j <;> simp at hj
      all_goals subst hj
      all_goals first | exact .lit _ rfl | exact .nil _ _ _ _ (by simp))
  have a4 : TR (memOf w) (.sl 1 false (List.map e_Block [⟨[insC, insR op]⟩])) (.slice (some ⟨n + 3, 0, none⟩) 1 1) := TR_arr (M := memOf w) h.h4 rfl (by simp [e_Block]) rfl (fun i e j t hi hj => by
    rcases i with _ | i <;> simp [e_Block] at hi
    subst hi
    rcases j with _ | j <;> simp at hj
    subst hj; exact a3)
  exact TR_arr (M := memOf w) h.h5 rfl (by simp [e_Func, progT]) rfl (fun i e j t hi hj => by
    rcases i with _ | i <;> simp [e_Func, progT] at hi
    subst hi
    rcases j with _ | _ | _ | _ | _ | j <;> simp at hj
    all_goals subst hj
    · exact a1
    · exact a2
    · exact .lit _ rfl
    · exact .lit _ rfl
    · exact a4)
theorem check_plain : shape_Check (progT 23) = some 0 ∧ shape_Check (progT 21) = some 5 := by decide +kernel
theorem last_plain : shape_Last 23 = some true := by decide +kernel
theorem sort2 (a b : Int) : [a, b].mergeSort (fun x y => decide (x ≤ y)) = if a ≤ b then [a, b] else [b, a] := by
  simp [List.mergeSort, List.MergeSort.Internal.splitInTwo, List.merge]
theorem next_plain : shape_Next ⟨22, 0, 0, 0, 3, 1, []⟩ = some [1, 3] := by
  simp only [shape_Next, shape_Next.j1, slices_Sort_int, slices_Compact_int, sort2]
  decide +kernel
theorem Glob.same {w w' : World} {γ : GT} (hg : Glob γ (memOf w)) (h : SameW w w') : Glob γ (memOf w') := by
  exact hg.mono fun b x hb => by
    have hlt : b < w.heap.size := (Array.getElem?_eq_some_iff.1 (show w.heap[b]? = some x from hb)).1
    exact (h.block b hlt).trans hb
theorem check_calls {w : World} {n : Nat} {op r : Int} (hg : Glob gam (memOf w)) (h : TinyAt w n op) (hr : shape_Check (progT op) = some r) :
    Calls Tryd.prog 13 #[.agg #[.slice (some ⟨n + 4, 0, none⟩) 1 1]] w fun e w' => e = .returned (.int .i64 r) ∧ SameW w w' := by
  refine calls_of_valid (L := Lx gam) (shape_Check_ok gam [] hr) hg rfl (fun j c hj => ?_)
  match j, hj with
  | 0, hj =>
    simp at hj; subst hj
    exact .agg _ _ rfl (fun j c hj => by
      match j, hj with
      | 0, hj => simp at hj; subst hj; exact .tr h.tree
      | j + 1, hj => simp at hj)
  | j + 1, hj => simp at hj
theorem last_calls {w : World} (hg : Glob gam (memOf w)) : Calls Tryd.prog 19 #[.int .i64 23] w fun e w' => e = .returned (.bool true) ∧ SameW w w' := by
  refine calls_of_valid (L := Lx gam) (shape_Last_ok gam [] last_plain) hg rfl (fun j c hj => ?_)
  match j, hj with
  | 0, hj => simp at hj; subst hj; exact .tr (.lit _ rfl)
  | j + 1, hj => simp at hj
end Go.Pf
end
section
/- The fixed fact of the laws of shapes: alive, whole. -/
namespace Go.Pf
open Go Go.Ab Go.Pp Go.Proofs Go.Proofs.S04
set_option maxRecDepth 100000
theorem SameW.trans {a b c : World} (h : SameW a b) (k : SameW b c) : SameW a c :=
  ⟨k.os.trans h.os, k.tape.trans h.tape, k.output.trans h.output, Nat.le_trans h.size k.size, fun i hi => (k.block i (Nat.lt_of_lt_of_le hi h.size)).trans (h.block i hi)⟩
theorem SameW.alloc (w : World) (o : Obj) : SameW w (w.alloc o) := ⟨rfl, rfl, rfl, by rw [al_size]; omega, fun b hb => by rw [al_get, if_neg (by omega)]⟩
theorem next_calls {W : World} (hg : Glob gam (memOf W)) :
    Calls Tryd.prog 24 #[.agg #[.int .i64 22, .int .i64 0, .int .i64 0, .int .i64 0, .int .i64 3, .int .i64 1, .slice none 0 0]] W fun e W' =>
      ∃ b st c, e = .returned (.slice (some ⟨b, st, none⟩) 2 c) ∧ W'.cell? ⟨b, st, none⟩ = some (.int .i64 1) ∧ b < W'.heap.size ∧ SameW W W' := by
  have I : Inv (FB (fun _ => none) []) W.heap.size W (memOf W) (fun _ => none) [] :=
    ⟨fun b y h => h, fun o y h => by simp [getO] at h, fun o o' y y' b h => by simp [getO] at h, fun o y b h => by simp [getO] at h, fun o y b h => by simp [getO] at h, fun o g h => by cases h⟩
  have hv := shape_Next_ok gam [] (a0 := ⟨22, 0, 0, 0, 3, 1, []⟩) (v0_6 := V.tr (.sl 0 true [])) (by rfl) next_plain
  refine (hv.2.2 W (memOf W) (fun _ => none) _ I hg rfl (fun j c hj => ?_)).mono ?_
  · match j, hj with
    | 0, hj =>
      simp at hj; subst hj
      refine .agg _ _ rfl (fun j c hj => ?_)
      match j, hj with
      | 0, hj => simp at hj; subst hj; exact .tr (.lit _ rfl)
      | 1, hj => simp at hj; subst hj; exact .tr (.lit _ rfl)
      | 2, hj => simp at hj; subst hj; exact .tr (.lit _ rfl)
      | 3, hj => simp at hj; subst hj; exact .tr (.lit _ rfl)
      | 4, hj => simp at hj; subst hj; exact .tr (.lit _ rfl)
      | 5, hj => simp at hj; subst hj; exact .tr (.lit _ rfl)
      | 6, hj => simp at hj; subst hj; exact .tr (.nil _ _ _ _ (by simp))
      | j + 7, hj => simp at hj
    | j + 1, hj => simp at hj
  · rintro e w' ⟨r, M', G', rfl, hM, _, hr, I2, fr, _⟩
    have hx : getO ([] ++ [some (O.row 1 0 (List.map (eI .i64) [1, 3]))]) 0 = some (O.row 1 0 (List.map eN [1, 3])) := rfl
    obtain ⟨b, st, ri, f, h1, h2, h3, h4, h5, h6, h7, _⟩ := row_put I2 hx (by simp)
    obtain ⟨a, rfl, hra⟩ := row_slice (o := 0) (ver := 0) (len := 2) hr h1 h2
    have h7' : 2 ≤ ri.cap := by simpa using h7
    obtain ⟨b', st', e1, e2⟩ := hra (by omega)
    rw [h3] at e1; cases e1
    rw [Nat.zero_mul, Nat.add_zero] at e2
    subst e2
    refine ⟨b, st, _, rfl, (h5 0 (by simp)).1, h6, fr.os, fr.tape, fr.output, fr.size, fun b hb => fr.block b hb ?_⟩
    rintro ⟨o, y, h, _⟩
    simp [getO] at h
end Go.Pf
end
section
/- The fixed fact of the laws of shapes: its walk. -/
namespace Go.Pf
open Go Go.Ab Go.Pp Go.Proofs Go.Proofs.S04
set_option maxRecDepth 100000
theorem SameW.refl' (w : World) : SameW w w := ⟨rfl, rfl, rfl, Nat.le_refl _, fun _ _ => rfl⟩
def allocs (w : World) (l : List Obj) : World := l.foldl World.alloc w
theorem allocs_size : ∀ (l : List Obj) (w : World), (allocs w l).heap.size = w.heap.size + l.length
  | [], w => rfl
  | o :: l, w => by
    have := allocs_size l (w.alloc o)
    rw [al_size] at this
    simp only [allocs, List.foldl_cons, List.length_cons] at *
    omega
theorem allocs_old : ∀ (l : List Obj) (w : World) (i : Nat), i < w.heap.size → (allocs w l).heap[i]? = w.heap[i]?
  | [], w, i, h => rfl
  | o :: l, w, i, h => by
    have := allocs_old l (w.alloc o) i (by rw [al_size]; omega)
    rw [al_get, if_neg (by omega)] at this
    exact this
theorem allocs_get : ∀ (l : List Obj) (w : World) (i : Nat), i < l.length → (allocs w l).heap[w.heap.size + i]? = l[i]?
  | [], w, i, h => by simp at h
  | o :: l, w, 0, h => by
    have := allocs_old l (w.alloc o) w.heap.size (by rw [al_size]; omega)
    rw [al_get, if_pos rfl] at this
    exact this
  | o :: l, w, i + 1, h => by
    have := allocs_get l (w.alloc o) i (by simpa using h)
    rw [al_size] at this
    rw [show w.heap.size + (i + 1) = w.heap.size + 1 + i by omega]
    exact this
theorem allocs_same (l : List Obj) (w : World) : SameW w (allocs w l) := by
  induction l generalizing w with
  | nil => exact SameW.refl' w
  | cons o l ih => exact SameW.trans (SameW.alloc w o) (ih _)
def objsA (n : Nat) : List Obj :=
  let t := fun (m : Nat) (op : Int) => [Obj.cells #[.slice (some ⟨m + 5, 0, none⟩) 1 1] 24, .cells #[.int .i64 0] 3, .cells #[.int .i64 (-1)] 3,
    .cells #[.int .i64 1, .int .i64 0, .int .i64 0, .int .i64 0, .int .i64 5, .int .i64 0, .slice none 0 0, .int .i64 op, .int .i64 0, .int .i64 0, .int .i64 0, .int .i64 0, .int .i64 0, .slice none 0 0] 35,
    .cells #[.slice (some ⟨m + 3, 0, none⟩) 2 2] 44,
    .cells #[.slice (some ⟨m + 1, 0, none⟩) 1 1, .slice (some ⟨m + 2, 0, none⟩) 1 1, .int .i64 0, .int .i64 0, .slice (some ⟨m + 4, 0, none⟩) 1 1] 31,
    .cells #[.slice (some ⟨m + 5, 0, none⟩) 1 1] 24]
  t n 23 ++ t (n + 7) 21
theorem cell_heap {w : World} {b : Nat} {arr : Array Value} {T : TypeId} {fr : Nat × Nat} (h : w.heap[b]? = some (.cells arr T fr)) (off : Nat) : w.cell? ⟨b, off, none⟩ = arr[off]? := by
  simp [World.cell?, h]
theorem cell_same {w w' : World} (h : SameW w w') {b off : Nat} (hb : b < w.heap.size) : w'.cell? ⟨b, off, none⟩ = w.cell? ⟨b, off, none⟩ := by
  unfold World.cell?
  simp only [h.block b hb]
structure Facts (w w1 : World) : Prop where
  p : w1.cell? ⟨w.heap.size + 6, 0, none⟩ = some (.slice (some ⟨w.heap.size + 5, 0, none⟩) 1 1)
  q : w1.cell? ⟨w.heap.size + 13, 0, none⟩ = some (.slice (some ⟨w.heap.size + 12, 0, none⟩) 1 1)
  t1 : TinyAt w1 (w.heap.size + 1) 23
  t2 : TinyAt w1 (w.heap.size + 8) 21
  s : SameW w w1
  n : w.heap.size + 14 ≤ w1.heap.size
theorem Facts.same {w w1 w2 : World} (h : Facts w w1) (hs : SameW w1 w2) : Facts w w2 :=
  ⟨by rw [cell_same hs (by have := h.n; omega)]; exact h.p, by rw [cell_same hs (by have := h.n; omega)]; exact h.q, h.t1.same hs, h.t2.same hs, SameW.trans h.s hs, Nat.le_trans h.n hs.size⟩
theorem facts0 (w : World) : Facts w (allocs w (objsA w.heap.size)) := by
  have g := fun i hi => allocs_get (objsA w.heap.size) w i hi
  exact ⟨by rw [cell_heap (g 6 (by simp [objsA]))]; rfl, by rw [cell_heap (g 13 (by simp [objsA]))]; rfl, ⟨g 1 (by simp [objsA]), g 2 (by simp [objsA]), g 3 (by simp [objsA]), g 4 (by simp [objsA]), g 5 (by simp [objsA])⟩, ⟨g 8 (by simp [objsA]), g 9 (by simp [objsA]), g 10 (by simp [objsA]), g 11 (by simp [objsA]), g 12 (by simp [objsA])⟩, allocs_same _ w, by rw [allocs_size]; exact Nat.le_refl _⟩
set_option maxHeartbeats 400000 in
theorem alive_calls (w : World) (hg : Glob gam (memOf w)) : Calls Tryd.prog 9 #[] w fun e w' => e = .returned (.bool true) ∧ SameW w w' := by
  go_enter Tryd.func9, Tryd.ntmps9
  go_wp2_with (first
    | (go_at_call 34; refine (tiny_calls _).mono ?_; rintro e w' ⟨rfl, rfl⟩; unfold tinyW)
    | (go_at_call 24; refine (next_calls (Glob.same hg (facts0 w).s)).mono ?_; rintro e w1 ⟨b, st, c, rfl, hc, hb, hs⟩
       obtain ⟨p1, q1, t1, t2, s1, n1⟩ := (facts0 w).same hs; clear hs))
  have X := check_calls (Glob.same hg s1) t1 check_plain.1
  refine Calls.mono X ?_
  rintro e w2 ⟨rfl, hs⟩
  clear X
  obtain ⟨p2, q2, _, t2', s2, n2⟩ := Facts.same ⟨p1, q1, t1, t2, s1, n1⟩ hs
  have hc2 := (cell_same hs hb).trans hc
  have hb2 := Nat.lt_of_lt_of_le hb hs.size
  clear hs p1 q1 t1 t2 s1 n1 hc hb
  go_wp2_with (fail)
  have X := check_calls (Glob.same hg s2) t2' check_plain.2
  refine Calls.mono X ?_
  rintro e w3 ⟨rfl, hs⟩
  clear X
  have hc := (cell_same hs hb2).trans hc2
  have hb := Nat.lt_of_lt_of_le hb2 hs.size
  have s3 := SameW.trans s2 hs
  clear hs p2 q2 t2' s2 n2 hc2 hb2
  go_wp2_with (fail)
  have X := last_calls (Glob.same hg s3)
  refine Calls.mono X ?_
  rintro e w4 ⟨rfl, hs⟩
  clear X
  have hc2 := (cell_same hs hb).trans hc
  have s4 := SameW.trans s3 hs
  clear hs s3 hc hb
  go_wp2
  go_ret
  exact ⟨rfl, s4⟩
theorem Inv.same {F : Nat → Prop} {n0 : Nat} {w w' : World} {M : Mem} {G : Gh} {ob : OT} (I : Inv F n0 w M G ob) (hs : SameW w w') : Inv F n0 w' M G ob :=
  ⟨fun b x hb => by rw [hs.block b (I.memlt hb)]; exact I.mem b x hb, fun o x hx => (I.obj o x hx).mono (Mle.refl _) (Gle.refl _) rfl (fun b hb => hs.block b (I.lt hx hb)), I.dis, I.off, I.own, I.dom⟩
theorem portolanlaw04_alive_ok (γ : GT) (ob : OT) {r : Bool} (h : portolanlaw04_alive = some r) : Valid (Lx γ) 9 [] ob (vbool r) ob := by
  cases h
  refine ⟨⟨⟨Tryd.f9, Tryd.func9, by kernel_rfl, rfl⟩⟩, Nat.le_refl _, fun w M G rs I hg hl ha => ?_⟩
  have : rs = #[] := Array.eq_empty_of_size_eq_zero hl.symm
  subst this
  refine (alive_calls w (hg.mono fun b x hb => I.mem b x hb)).mono ?_
  rintro e w' ⟨rfl, hs⟩
  exact ⟨_, M, G, rfl, Mle.refl _, Gle.refl _, .tr (.lit _ rfl), Inv.same I hs, ⟨hs.os, hs.tape, hs.output, hs.size, fun b hb _ => hs.block b hb⟩, fun _ _ h => h⟩
end Go.Pf
end
section
set_option maxRecDepth 100000
namespace Go.Pf
open Go Go.Ab Go.Pp Go.Proofs Go.Proofs.S04
attribute [local go_sem] Lxτ Lxγ gam0 Int.toNat_natCast  eI eB eS e_Ins e_Block e_Func e_Prog e_code_writer e_code_reader e_Edge

end Go.Pf
end
section
set_option maxRecDepth 100000
namespace Go.Pf
open Go Go.Ab Go.Pp Go.Proofs Go.Proofs.S04
attribute [local go_sem] Lxτ Lxγ gam0 Int.toNat_natCast List.append_eq List.cons_append List.nil_append tau3 tau22 tau24 tau28 tau29 tau31 tau35 tau42 tau44 eI eB eS e_Ins e_Block e_Func e_Prog e_code_writer e_code_reader e_Edge
set_option maxHeartbeats 1000000 in
theorem portolanref03_Great_ok (γ : GT) (ob : OT) {a0 : Prog} {v0_0 : V} (hv0_0 : rdK (getO ob) 5 v0_0 = some (List.map e_Func a0.Funcs)) {r : Bool} (h : portolanref03_Great a0 = some r) :
  Valid (Lx γ) 10 [V.agg [v0_0]] ob (vbool r) ob := by
 refine valid_X (lx_ok γ) (fn := Tryd.f10) (rs := [.tmp 2]) Tryd.func10 (by kernel_rfl) rfl rfl Tryd.ntmps10 rfl (by simp) fun hb hob => ?_
 have hq := rd4 hv0_0
 rw [portolanref03_Great] at h
 refine X_sr (lx_ok γ) ?_
 simp -implicitDefEqProofs only [go_sem, seval, hq]
 refine X_sr (lx_ok γ) ?_
 simp -implicitDefEqProofs only [go_sem, seval, hq]
 refine X_seq ?_
 refine X_sr (lx_ok γ) ?_
 simp -implicitDefEqProofs only [go_sem, seval, hq]
 refine X_jq (J := fun as1 ob1 => ∃ (x1 : Int), portolanref03_Great.k1 x1 = some r ∧ [(3, vint .i64 x1)] = as1 ∧ ob = ob1) ?_ ?_
 ·rintro as1 ob1 ⟨x1, h, rfl, rfl⟩
  rw [portolanref03_Great.k1] at h
  simp -implicitDefEqProofs only [go_sem, seval, hq]
  refine X_sr (lx_ok γ) ?_
  simp -implicitDefEqProofs only [go_sem, seval, hq]
  obtain rfl := sI h
  refine X_ret ?_
  simp -implicitDefEqProofs only [go_sem, seval, hq]
  exact Rt.mv1 (BaseR.refl hob) (by simp) (vS)
 ·refine X_block ?_
  obtain ⟨lr1, hl1, hk1, hr1⟩ := aft2 h
  refine X_forN hl1 (fun (i1 : Nat) (s : Int) as1 ob1 => [(1, V.ref ob.length 0), (3, vint .i64 s), (4, vint .i64 (i1 : Int))] = as1 ∧ ob ++ [some (O.box [v0_0])] = ob1) ⟨_, _, ?_, rfl, rfl⟩ ?_ ?_
  ·exact To.mv [(0, 0)] (BaseR.refl hob) (by simp) (by decide) (by simp only [go_sem]; exact ⟨VM.refA (j := 0) (t := 0) rfl, vS, VM.eqv (by simp) (by simp)⟩) ⟨⟨_, rfl, OM.box _ _ ⟨VM.self (by simpa using Bd.of_rdK hv0_0), trivial⟩⟩, trivial⟩
  ·rintro i1 x1 o1 hi1 hw1 h ho1 as1 ob1 ⟨rfl, rfl⟩
   rw [portolanref03_Great.b1] at h
   refine X_seq ?_
   refine X_sr (lx_ok γ) ?_
   simp -implicitDefEqProofs only [go_sem, seval, hi1, hq]
   cases f1 : decide (x1 ≤ 3000)
   ·rw [if_neg (nF f1)] at h
    refine X_cond (lx_ok γ) ?_
    simp -implicitDefEqProofs only [go_sem, seval, hi1, f1, hq]
    obtain rfl := sI h
    have h := hk1 _ (.inr (ho1 (fun _ hs => nomatch hs)))
    refine X_exit ?_
    try simp -implicitDefEqProofs only [go_sem, ↓reduceIte, Nat.reduceEqDiff, reduceCtorEq]
    refine kJ_in ?_ ⟨x1, h, rfl, rfl⟩
    exact To.mv0 (BaseR.refl hob) (by simp) (by simp only [go_sem]; exact vS)
   ·rw [if_pos f1] at h
    refine X_cond (lx_ok γ) ?_
    simp -implicitDefEqProofs only [go_sem, seval, hi1, f1, hq]
    refine X_skip ?_
    try simp -implicitDefEqProofs only [go_sem]
    refine X_seq ?_
    refine X_block ?_
    refine X_sr (lx_ok γ) ?_
    obtain ⟨x3, f2, h⟩ := bindE h
    obtain ⟨f3, f4⟩ := ixL_nat f2
    have f5 : (0 : Int) ≤ (i1 : Int) := Int.natCast_nonneg _
    simp -implicitDefEqProofs only [go_sem, seval, hi1, f1, hq, f3, f4, f5]
    refine X_sr (lx_ok γ) ?_
    simp -implicitDefEqProofs only [go_sem, seval, hi1, f1, hq]
    refine X_sr (lx_ok γ) ?_
    simp -implicitDefEqProofs only [go_sem, seval, hi1, f1, hq]
    refine X_jq (J := fun as1 ob1 => ∃ (x4 : Int), portolanref03_Great.k2 x4 = some o1 ∧ [(1, V.ref ob.length 0), (3, vint .i64 x4), (4, vint .i64 (i1 : Int))] = as1 ∧ ob ++ [some (O.box [v0_0])] = ob1) ?_ ?_
    ·rintro as1 ob1 ⟨x4, h, rfl, rfl⟩
     rw [portolanref03_Great.k2] at h
     simp -implicitDefEqProofs only [go_sem, seval, hi1, f1, hq]
     refine X_reg (lx_ok γ) ?_
     obtain rfl := sI h
     simp -implicitDefEqProofs only [go_sem, seval, hi1, f1, hq]
     refine kR_in rfl ?_ ⟨rfl, rfl⟩
     exact To.mv [(0, 0)] (BaseR.refl hob) (by simp) (by decide) (by simp only [go_sem]; exact ⟨VM.refA (j := 0) (t := 0) rfl, vS, VM.eqv (by rw [hw1]) (by simp)⟩) ⟨⟨_, rfl, OM.box _ _ ⟨VM.self (by simpa using Bd.of_rdK hv0_0), trivial⟩⟩, trivial⟩
    ·refine X_block ?_
     obtain ⟨lr2, hl2, hk2, hr2⟩ := aft2 h
     refine X_forN hl2 (fun (i2 : Nat) (s : Int) as1 ob1 => [(1, V.ref ob.length 0), (3, vint .i64 s), (4, vint .i64 (i1 : Int)), (5, V.ref (ob.length + 1) 0), (6, vint .i64 (i2 : Int))] = as1 ∧ ob ++ [some (O.box [v0_0]), some (O.box [V.tr (.sl 1 false (List.map (eI .i64) x3.Kinds)), V.tr (.sl 1 false (List.map (eI .i64) x3.Base)), vint .i64 x3.Params, vint .i64 x3.Result, V.tr (.sl 1 false (List.map e_Block x3.Blocks))])] = ob1) ⟨_, _, ?_, rfl, rfl⟩ ?_ ?_
     ·exact To.mv [(0, 0), (1, 0)] (BaseR.refl hob) (by simp) (by decide) (by simp only [go_sem]; exact ⟨VM.refA (j := 0) (t := 0) rfl, vS, vS, VM.refA (j := 1) (t := 1) rfl, VM.eqv (by simp) (by simp)⟩) ⟨⟨_, rfl, OM.box _ _ ⟨VM.self (by simpa using Bd.of_rdK hv0_0), trivial⟩⟩, ⟨_, rfl, OM.box _ _ ⟨vS, vS, vS, vS, vS, trivial⟩⟩, trivial⟩
     ·rintro i2 x4 o2 hi2 hw2 h ho2 as1 ob1 ⟨rfl, rfl⟩
      rw [portolanref03_Great.b2] at h
      refine X_seq ?_
      refine X_sr (lx_ok γ) ?_
      simp -implicitDefEqProofs only [go_sem, seval, hi1, f1, hi2, hq]
      cases f6 : decide (x4 ≤ 3000)
      ·rw [if_neg (nF f6)] at h
       refine X_cond (lx_ok γ) ?_
       simp -implicitDefEqProofs only [go_sem, seval, hi1, f1, hi2, f6, hq]
       obtain rfl := sI h
       have h := hk2 _ (.inr (ho2 (fun _ hs => nomatch hs)))
       refine X_exit ?_
       try simp -implicitDefEqProofs only [go_sem, ↓reduceIte, Nat.reduceEqDiff, reduceCtorEq]
       refine kJ_in ?_ ⟨x4, h, rfl, rfl⟩
       exact To.mv [(0, 0)] (BaseR.refl hob) (by simp) (by decide) (by simp only [go_sem]; exact ⟨VM.refA (j := 0) (t := 0) rfl, vS, vS⟩) ⟨⟨_, rfl, OM.box _ _ ⟨VM.self (by simpa using Bd.of_rdK hv0_0), trivial⟩⟩, trivial⟩
      ·rw [if_pos f6] at h
       refine X_cond (lx_ok γ) ?_
       simp -implicitDefEqProofs only [go_sem, seval, hi1, f1, hi2, f6, hq]
       refine X_skip ?_
       try simp -implicitDefEqProofs only [go_sem]
       refine X_seq ?_
       refine X_block ?_
       refine X_sr (lx_ok γ) ?_
       obtain ⟨x6, f7, h⟩ := bindE h
       obtain ⟨f8, f9⟩ := ixL_nat f7
       have f10 : (0 : Int) ≤ (i2 : Int) := Int.natCast_nonneg _
       simp -implicitDefEqProofs only [go_sem, seval, hi1, f1, hi2, f6, hq, f8, f9, f10]
       refine X_sr (lx_ok γ) ?_
       simp -implicitDefEqProofs only [go_sem, seval, hi1, f1, hi2, f6, hq]
       refine X_jq (J := fun as1 ob1 => ∃ (x7 : Int), portolanref03_Great.k3 x7 = some o2 ∧ [(1, V.ref ob.length 0), (3, vint .i64 x7), (4, vint .i64 (i1 : Int)), (5, V.ref (ob.length + 1) 0), (6, vint .i64 (i2 : Int))] = as1 ∧ ob ++ [some (O.box [v0_0]), some (O.box [V.tr (.sl 1 false (List.map (eI .i64) x3.Kinds)), V.tr (.sl 1 false (List.map (eI .i64) x3.Base)), vint .i64 x3.Params, vint .i64 x3.Result, V.tr (.sl 1 false (List.map e_Block x3.Blocks))])] = ob1) ?_ ?_
       ·rintro as1 ob1 ⟨x7, h, rfl, rfl⟩
        rw [portolanref03_Great.k3] at h
        simp -implicitDefEqProofs only [go_sem, seval, hi1, f1, hi2, f6, hq]
        refine X_reg (lx_ok γ) ?_
        obtain rfl := sI h
        simp -implicitDefEqProofs only [go_sem, seval, hi1, f1, hi2, f6, hq]
        refine kR_in rfl ?_ ⟨rfl, rfl⟩
        exact To.mv [(0, 0), (1, 0)] (BaseR.refl hob) (by simp) (by decide) (by simp only [go_sem]; exact ⟨VM.refA (j := 0) (t := 0) rfl, vS, vS, VM.refA (j := 1) (t := 1) rfl, VM.eqv (by rw [hw2]) (by simp)⟩) ⟨⟨_, rfl, OM.box _ _ ⟨VM.self (by simpa using Bd.of_rdK hv0_0), trivial⟩⟩, ⟨_, rfl, OM.box _ _ ⟨vS, vS, vS, vS, vS, trivial⟩⟩, trivial⟩
       ·refine X_block ?_
        obtain ⟨lr3, hl3, hk3, hr3⟩ := aft2 h
        refine X_while hl3 (fun (s : Int × Int) as1 ob1 => [(1, V.ref ob.length 0), (3, vint .i64 s.1), (4, vint .i64 (i1 : Int)), (5, V.ref (ob.length + 1) 0), (6, vint .i64 (i2 : Int)), (7, vint .i64 s.2)] = as1 ∧ ob ++ [some (O.box [v0_0]), some (O.box [V.tr (.sl 1 false (List.map (eI .i64) x3.Kinds)), V.tr (.sl 1 false (List.map (eI .i64) x3.Base)), vint .i64 x3.Params, vint .i64 x3.Result, V.tr (.sl 1 false (List.map e_Block x3.Blocks))])] = ob1) ⟨_, _, ?_, rfl, rfl⟩ ?_
        ·exact To.mv [(0, 0), (1, 0)] (BaseR.refl hob) (by simp) (by decide) (by simp only [go_sem]; exact ⟨VM.refA (j := 0) (t := 0) rfl, vS, vS, VM.refA (j := 1) (t := 1) rfl, vS, vS⟩) ⟨⟨_, rfl, OM.box _ _ ⟨VM.self (by simpa using Bd.of_rdK hv0_0), trivial⟩⟩, ⟨_, rfl, OM.box _ _ ⟨vS, vS, vS, vS, vS, trivial⟩⟩, trivial⟩
        ·rintro ⟨x7, x8⟩ o3 h ho3 as1 ob1 ⟨rfl, rfl⟩
         rw [portolanref03_Great.b3] at h
         refine X_seq ?_
         refine X_seq ?_
         refine X_jq (J := fun as1 ob1 => ∃ (x10 : Bool), portolanref03_Great.j1 x3 x7 x8 x10 i2 = some o3 ∧ [(1, V.ref ob.length 0), (3, vint .i64 x7), (4, vint .i64 (i1 : Int)), (5, V.ref (ob.length + 1) 0), (6, vint .i64 (i2 : Int)), (7, vint .i64 x8), (72, vbool x10)] = as1 ∧ ob ++ [some (O.box [v0_0]), some (O.box [V.tr (.sl 1 false (List.map (eI .i64) x3.Kinds)), V.tr (.sl 1 false (List.map (eI .i64) x3.Base)), vint .i64 x3.Params, vint .i64 x3.Result, V.tr (.sl 1 false (List.map e_Block x3.Blocks))])] = ob1) ?_ ?_
         ·rintro as1 ob1 ⟨x10, h, rfl, rfl⟩
          rw [portolanref03_Great.j1] at h
          simp -implicitDefEqProofs only [go_sem, seval, hi1, f1, hi2, f6, hq]
          cases f11 : x10
          ·rw [if_neg (nF f11)] at h
           refine X_cond (lx_ok γ) ?_
           simp -implicitDefEqProofs only [go_sem, seval, hi1, f1, hi2, f6, f11, hq]
           obtain rfl := sI h
           have h := hk3 _ (.inr (ho3 (fun _ hs => nomatch hs)))
           refine X_exit ?_
           try simp -implicitDefEqProofs only [go_sem, ↓reduceIte, Nat.reduceEqDiff, reduceCtorEq]
           refine kJ_in ?_ ⟨x7, h, rfl, rfl⟩
           exact To.mv [(0, 0), (1, 0)] (BaseR.refl hob) (by simp) (by decide) (by simp only [go_sem]; exact ⟨VM.refA (j := 0) (t := 0) rfl, vS, vS, VM.refA (j := 1) (t := 1) rfl, vS⟩) ⟨⟨_, rfl, OM.box _ _ ⟨VM.self (by simpa using Bd.of_rdK hv0_0), trivial⟩⟩, ⟨_, rfl, OM.box _ _ ⟨vS, vS, vS, vS, vS, trivial⟩⟩, trivial⟩
          ·rw [if_pos f11] at h
           refine X_cond (lx_ok γ) ?_
           simp -implicitDefEqProofs only [go_sem, seval, hi1, f1, hi2, f6, f11, hq]
           refine X_skip ?_
           try simp -implicitDefEqProofs only [go_sem]
           refine X_seq ?_
           refine X_block ?_
           refine X_reg (lx_ok γ) ?_
           obtain ⟨x11, f12, h⟩ := bindE h
           obtain ⟨f13, f14⟩ := ixL_nat f12
           have f15 : (0 : Int) ≤ (i2 : Int) := Int.natCast_nonneg _
           obtain ⟨x12, f16, h⟩ := bindE h
           obtain ⟨f17, f18, f19⟩ := ixL_some f16
           try simp only [Int.toNat_natCast, Int.reduceToNat] at f19
           simp -implicitDefEqProofs only [go_sem, seval, hi1, f1, hi2, f6, f11, hq, f13, f14, f15, f17, f18, f19]
           refine X_reg (lx_ok γ) ?_
           obtain rfl := sI h
           simp -implicitDefEqProofs only [go_sem, seval, hi1, f1, hi2, f6, f11, hq]
           refine kR_in rfl ?_ ⟨rfl, rfl⟩
           exact To.mv [(0, 0), (1, 0)] (BaseR.refl hob) (by simp) (by decide) (by simp only [go_sem]; exact ⟨VM.refA (j := 0) (t := 0) rfl, vS, vS, VM.refA (j := 1) (t := 1) rfl, vS, vS⟩) ⟨⟨_, rfl, OM.box _ _ ⟨VM.self (by simpa using Bd.of_rdK hv0_0), trivial⟩⟩, ⟨_, rfl, OM.box _ _ ⟨vS, vS, vS, vS, vS, trivial⟩⟩, trivial⟩
         ·refine X_reg (lx_ok γ) ?_
          obtain ⟨x13, f20, h⟩ := bindE h
          obtain ⟨f21, f22⟩ := ixL_nat f20
          have f23 : (0 : Int) ≤ (i2 : Int) := Int.natCast_nonneg _
          cases f24 : decide (x8 < (List.length x13.Code : Int))
          ·rw [if_neg (nF f24)] at h
           simp -implicitDefEqProofs only [go_sem, seval, hi1, f1, hi2, f6, f24, hq, f21, f22, f23]
           refine kJ_in ?_ ⟨false, h, rfl, rfl⟩
           exact To.mv [(0, 0), (1, 0)] (BaseR.refl hob) (by simp) (by decide) (by simp only [go_sem]; exact ⟨VM.refA (j := 0) (t := 0) rfl, vS, vS, VM.refA (j := 1) (t := 1) rfl, vS, vS, vS⟩) ⟨⟨_, rfl, OM.box _ _ ⟨VM.self (by simpa using Bd.of_rdK hv0_0), trivial⟩⟩, ⟨_, rfl, OM.box _ _ ⟨vS, vS, vS, vS, vS, trivial⟩⟩, trivial⟩
          ·rw [if_pos f24] at h
           simp -implicitDefEqProofs only [go_sem, seval, hi1, f1, hi2, f6, f24, hq, f21, f22, f23]
           refine kJ_in ?_ ⟨(decide (x7 ≤ 3000)), h, rfl, rfl⟩
           exact To.mv [(0, 0), (1, 0)] (BaseR.refl hob) (by simp) (by decide) (by simp only [go_sem]; exact ⟨VM.refA (j := 0) (t := 0) rfl, vS, vS, VM.refA (j := 1) (t := 1) rfl, vS, vS, vS⟩) ⟨⟨_, rfl, OM.box _ _ ⟨VM.self (by simpa using Bd.of_rdK hv0_0), trivial⟩⟩, ⟨_, rfl, OM.box _ _ ⟨vS, vS, vS, vS, vS, trivial⟩⟩, trivial⟩
     ·rintro i2 x4 hi2 hn2 as1 ob1 ⟨rfl, rfl⟩
      refine X_seq ?_
      refine X_sr (lx_ok γ) ?_
      simp -implicitDefEqProofs only [go_sem, seval, hi1, f1, hi2, hq]
      refine X_condF (lx_ok γ) rfl ?_
      have h := hk2 _ (.inl hn2)
      refine X_exit ?_
      try simp -implicitDefEqProofs only [go_sem, ↓reduceIte, Nat.reduceEqDiff, reduceCtorEq]
      refine kJ_in ?_ ⟨x4, h, rfl, rfl⟩
      exact To.mv [(0, 0)] (BaseR.refl hob) (by simp) (by decide) (by simp only [go_sem]; exact ⟨VM.refA (j := 0) (t := 0) rfl, vS, vS⟩) ⟨⟨_, rfl, OM.box _ _ ⟨VM.self (by simpa using Bd.of_rdK hv0_0), trivial⟩⟩, trivial⟩
  ·rintro i1 x1 hi1 hn1 as1 ob1 ⟨rfl, rfl⟩
   refine X_seq ?_
   refine X_sr (lx_ok γ) ?_
   simp -implicitDefEqProofs only [go_sem, seval, hi1, hq]
   refine X_condF (lx_ok γ) rfl ?_
   have h := hk1 _ (.inl hn1)
   refine X_exit ?_
   try simp -implicitDefEqProofs only [go_sem, ↓reduceIte, Nat.reduceEqDiff, reduceCtorEq]
   refine kJ_in ?_ ⟨x1, h, rfl, rfl⟩
   exact To.mv0 (BaseR.refl hob) (by simp) (by simp only [go_sem]; exact vS)
end Go.Pf
end
section
set_option maxRecDepth 100000
namespace Go.Pf
open Go Go.Ab Go.Pp Go.Proofs Go.Proofs.S04
attribute [local go_sem] Lxτ Lxγ gam0 Int.toNat_natCast tau3 eI eB eS e_Ins e_Block e_Func e_Prog e_code_writer e_code_reader e_Edge
set_option maxHeartbeats 1000000 in
theorem portolanref04_Last_ok (γ : GT) (ob : OT) {a0 : Int} {r : Bool} (h : portolanref04_Last a0 = some r) :
  Valid (Lx γ) 20 [vint .i64 a0] ob (vbool r) ob := by
 refine valid_X (lx_ok γ) (fn := Tryd.f20) (rs := [.tmp 2]) Tryd.func20 (by kernel_rfl) rfl rfl Tryd.ntmps20 rfl (by simp) fun hb hob => ?_
 rw [portolanref04_Last] at h
 refine X_sr (lx_ok γ) ?_
 simp -implicitDefEqProofs only [go_sem, seval]
 refine X_sr (lx_ok γ) ?_
 cases f1 : (a0 == 21)
 ·rw [if_neg (nF f1)] at h
  cases f2 : (a0 == 22)
  ·rw [if_neg (nF f2)] at h
   simp -implicitDefEqProofs only [go_sem, seval, f1, f2]
   obtain rfl := sI h
   refine X_ret ?_
   simp -implicitDefEqProofs only [go_sem, seval, f1, f2]
   exact Rt.mv1 (BaseR.refl hob) (by simp) (vS)
  ·rw [if_pos f2] at h
   simp -implicitDefEqProofs only [go_sem, seval, f1, f2]
   obtain rfl := sI h
   refine X_ret ?_
   simp -implicitDefEqProofs only [go_sem, seval, f1, f2]
   exact Rt.mv1 (BaseR.refl hob) (by simp) (vS)
 ·rw [if_pos f1] at h
  simp -implicitDefEqProofs only [go_sem, seval, f1]
  obtain rfl := sI h
  refine X_ret ?_
  simp -implicitDefEqProofs only [go_sem, seval, f1]
  exact Rt.mv1 (BaseR.refl hob) (by simp) (vS)
end Go.Pf
end
section
set_option maxRecDepth 100000
namespace Go.Pf
open Go Go.Ab Go.Pp Go.Proofs Go.Proofs.S04
attribute [local go_sem] Lxτ Lxγ gam0 Int.toNat_natCast tau3 eI eB eS e_Ins e_Block e_Func e_Prog e_code_writer e_code_reader e_Edge
set_option maxHeartbeats 1000000 in
theorem portolanref04_within_ok (γ : GT) (ob : OT) {a0 : Int} {a1 : Int} {a2 : Int} {r : Bool} (h : portolanref04_within a0 a1 a2 = some r) :
  Valid (Lx γ) 41 [vint .i64 a0, vint .i64 a1, vint .i64 a2] ob (vbool r) ob := by
 refine valid_X (lx_ok γ) (fn := Tryd.f41) (rs := [.tmp 6]) Tryd.func41 (by kernel_rfl) rfl rfl Tryd.ntmps41 rfl (by simp) fun hb hob => ?_
 rw [portolanref04_within] at h
 refine X_sr (lx_ok γ) ?_
 simp -implicitDefEqProofs only [go_sem, seval]
 refine X_sr (lx_ok γ) ?_
 cases f1 : decide (a1 ≤ a0)
 ·rw [if_neg (nF f1)] at h
  simp -implicitDefEqProofs only [go_sem, seval, f1]
  obtain rfl := sI h
  refine X_ret ?_
  simp -implicitDefEqProofs only [go_sem, seval, f1]
  exact Rt.mv1 (BaseR.refl hob) (by simp) (vS)
 ·rw [if_pos f1] at h
  simp -implicitDefEqProofs only [go_sem, seval, f1]
  obtain rfl := sI h
  refine X_ret ?_
  simp -implicitDefEqProofs only [go_sem, seval, f1]
  exact Rt.mv1 (BaseR.refl hob) (by simp) (vS)
end Go.Pf
end
section
set_option maxRecDepth 100000
namespace Go.Pf
open Go Go.Ab Go.Pp Go.Proofs Go.Proofs.S04
attribute [local go_sem] Lxτ Lxγ gam0 Int.toNat_natCast tau3 eI eB eS e_Ins e_Block e_Func e_Prog e_code_writer e_code_reader e_Edge
set_option maxHeartbeats 1000000 in
theorem portolanref03_Parts_ok (γ : GT) (ob : OT) {a0 : Int} {r : ByteArray} (h : portolanref03_Parts a0 = some r) :
  Valid (Lx γ) 52 [vint .i64 a0] ob (vstr r) ob := by
 refine valid_X (lx_ok γ) (fn := Tryd.f52) (rs := [.tmp 2]) Tryd.func52 (by kernel_rfl) rfl rfl Tryd.ntmps52 rfl (by simp) fun hb hob => ?_
 rw [portolanref03_Parts] at h
 refine X_sr (lx_ok γ) ?_
 simp -implicitDefEqProofs only [go_sem, seval]
 refine X_seq ?_
 refine X_sr (lx_ok γ) ?_
 simp -implicitDefEqProofs only [go_sem, seval]
 refine X_block ?_
 refine X_sr (lx_ok γ) ?_
 simp -implicitDefEqProofs only [go_sem, seval]
 cases f1 : (a0 == 1)
 ·rw [if_neg (nF f1)] at h
  refine X_cond (lx_ok γ) ?_
  simp -implicitDefEqProofs only [go_sem, seval, f1]
  refine X_seq ?_
  refine X_jq (J := fun as1 ob1 => ∃ (x3 : Bool), portolanref03_Parts.j1 a0 x3 = some r ∧ [(3, vint .i64 a0), (6, vbool x3)] = as1 ∧ ob = ob1) ?_ ?_
  ·rintro as1 ob1 ⟨x3, h, rfl, rfl⟩
   rw [portolanref03_Parts.j1] at h
   simp -implicitDefEqProofs only [go_sem, seval, f1]
   cases f2 : x3
   ·rw [if_neg (nF f2)] at h
    refine X_cond (lx_ok γ) ?_
    simp -implicitDefEqProofs only [go_sem, seval, f1, f2]
    refine X_seq ?_
    refine X_jq (J := fun as1 ob1 => ∃ (x8 : Bool), portolanref03_Parts.j2 a0 x8 = some r ∧ [(3, vint .i64 a0), (10, vbool x8)] = as1 ∧ ob = ob1) ?_ ?_
    ·rintro as1 ob1 ⟨x8, h, rfl, rfl⟩
     rw [portolanref03_Parts.j2] at h
     simp -implicitDefEqProofs only [go_sem, seval, f1, f2]
     cases f3 : x8
     ·rw [if_neg (nF f3)] at h
      refine X_cond (lx_ok γ) ?_
      simp -implicitDefEqProofs only [go_sem, seval, f1, f2, f3]
      refine X_sr (lx_ok γ) ?_
      simp -implicitDefEqProofs only [go_sem, seval, f1, f2, f3]
      cases f4 : (a0 == 7)
      ·rw [if_neg (nF f4)] at h
       refine X_cond (lx_ok γ) ?_
       simp -implicitDefEqProofs only [go_sem, seval, f1, f2, f3, f4]
       refine X_sr (lx_ok γ) ?_
       simp -implicitDefEqProofs only [go_sem, seval, f1, f2, f3, f4]
       cases f5 : (a0 == 10)
       ·rw [if_neg (nF f5)] at h
        refine X_cond (lx_ok γ) ?_
        simp -implicitDefEqProofs only [go_sem, seval, f1, f2, f3, f4, f5]
        refine X_seq ?_
        refine X_jq (J := fun as1 ob1 => ∃ (x11 : Bool), portolanref03_Parts.j3 a0 x11 = some r ∧ [(3, vint .i64 a0), (20, vbool x11)] = as1 ∧ ob = ob1) ?_ ?_
        ·rintro as1 ob1 ⟨x11, h, rfl, rfl⟩
         rw [portolanref03_Parts.j3] at h
         simp -implicitDefEqProofs only [go_sem, seval, f1, f2, f3, f4, f5]
         cases f6 : x11
         ·rw [if_neg (nF f6)] at h
          refine X_cond (lx_ok γ) ?_
          simp -implicitDefEqProofs only [go_sem, seval, f1, f2, f3, f4, f5, f6]
          refine X_seq ?_
          refine X_jq (J := fun as1 ob1 => ∃ (x13 : Bool), portolanref03_Parts.j4 a0 x13 = some r ∧ [(3, vint .i64 a0), (24, vbool x13)] = as1 ∧ ob = ob1) ?_ ?_
          ·rintro as1 ob1 ⟨x13, h, rfl, rfl⟩
           rw [portolanref03_Parts.j4] at h
           simp -implicitDefEqProofs only [go_sem, seval, f1, f2, f3, f4, f5, f6]
           cases f7 : x13
           ·rw [if_neg (nF f7)] at h
            refine X_cond (lx_ok γ) ?_
            simp -implicitDefEqProofs only [go_sem, seval, f1, f2, f3, f4, f5, f6, f7]
            refine X_sr (lx_ok γ) ?_
            simp -implicitDefEqProofs only [go_sem, seval, f1, f2, f3, f4, f5, f6, f7]
            cases f8 : (a0 == 16)
            ·rw [if_neg (nF f8)] at h
             refine X_cond (lx_ok γ) ?_
             simp -implicitDefEqProofs only [go_sem, seval, f1, f2, f3, f4, f5, f6, f7, f8]
             refine X_sr (lx_ok γ) ?_
             simp -implicitDefEqProofs only [go_sem, seval, f1, f2, f3, f4, f5, f6, f7, f8]
             cases f9 : (a0 == 18)
             ·rw [if_neg (nF f9)] at h
              refine X_cond (lx_ok γ) ?_
              simp -implicitDefEqProofs only [go_sem, seval, f1, f2, f3, f4, f5, f6, f7, f8, f9]
              refine X_sr (lx_ok γ) ?_
              simp -implicitDefEqProofs only [go_sem, seval, f1, f2, f3, f4, f5, f6, f7, f8, f9]
              cases f10 : (a0 == 19)
              ·rw [if_neg (nF f10)] at h
               refine X_cond (lx_ok γ) ?_
               simp -implicitDefEqProofs only [go_sem, seval, f1, f2, f3, f4, f5, f6, f7, f8, f9, f10]
               refine X_seq ?_
               refine X_jq (J := fun as1 ob1 => ∃ (x15 : Bool), portolanref03_Parts.j5 a0 x15 = some r ∧ [(3, vint .i64 a0), (33, vbool x15)] = as1 ∧ ob = ob1) ?_ ?_
               ·rintro as1 ob1 ⟨x15, h, rfl, rfl⟩
                rw [portolanref03_Parts.j5] at h
                simp -implicitDefEqProofs only [go_sem, seval, f1, f2, f3, f4, f5, f6, f7, f8, f9, f10]
                cases f11 : x15
                ·rw [if_neg (nF f11)] at h
                 refine X_cond (lx_ok γ) ?_
                 simp -implicitDefEqProofs only [go_sem, seval, f1, f2, f3, f4, f5, f6, f7, f8, f9, f10, f11]
                 refine X_sr (lx_ok γ) ?_
                 simp -implicitDefEqProofs only [go_sem, seval, f1, f2, f3, f4, f5, f6, f7, f8, f9, f10, f11]
                 cases f12 : (a0 == 21)
                 ·rw [if_neg (nF f12)] at h
                  refine X_cond (lx_ok γ) ?_
                  simp -implicitDefEqProofs only [go_sem, seval, f1, f2, f3, f4, f5, f6, f7, f8, f9, f10, f11, f12]
                  refine X_sr (lx_ok γ) ?_
                  simp -implicitDefEqProofs only [go_sem, seval, f1, f2, f3, f4, f5, f6, f7, f8, f9, f10, f11, f12]
                  cases f13 : (a0 == 22)
                  ·rw [if_neg (nF f13)] at h
                   refine X_cond (lx_ok γ) ?_
                   simp -implicitDefEqProofs only [go_sem, seval, f1, f2, f3, f4, f5, f6, f7, f8, f9, f10, f11, f12, f13]
                   refine X_skip ?_
                   try simp -implicitDefEqProofs only [go_sem]
                   refine X_sr (lx_ok γ) ?_
                   simp -implicitDefEqProofs only [go_sem, seval, f1, f2, f3, f4, f5, f6, f7, f8, f9, f10, f11, f12, f13]
                   obtain rfl := sI h
                   refine X_ret ?_
                   simp -implicitDefEqProofs only [go_sem, seval, f1, f2, f3, f4, f5, f6, f7, f8, f9, f10, f11, f12, f13]
                   exact Rt.mv1 (BaseR.refl hob) (by simp) (vS)
                  ·rw [if_pos f13] at h
                   refine X_cond (lx_ok γ) ?_
                   simp -implicitDefEqProofs only [go_sem, seval, f1, f2, f3, f4, f5, f6, f7, f8, f9, f10, f11, f12, f13]
                   refine X_sr (lx_ok γ) ?_
                   simp -implicitDefEqProofs only [go_sem, seval, f1, f2, f3, f4, f5, f6, f7, f8, f9, f10, f11, f12, f13]
                   obtain rfl := sI h
                   refine X_ret ?_
                   simp -implicitDefEqProofs only [go_sem, seval, f1, f2, f3, f4, f5, f6, f7, f8, f9, f10, f11, f12, f13]
                   exact Rt.mv1 (BaseR.refl hob) (by simp) (vS)
                 ·rw [if_pos f12] at h
                  refine X_cond (lx_ok γ) ?_
                  simp -implicitDefEqProofs only [go_sem, seval, f1, f2, f3, f4, f5, f6, f7, f8, f9, f10, f11, f12]
                  refine X_sr (lx_ok γ) ?_
                  simp -implicitDefEqProofs only [go_sem, seval, f1, f2, f3, f4, f5, f6, f7, f8, f9, f10, f11, f12]
                  obtain rfl := sI h
                  refine X_ret ?_
                  simp -implicitDefEqProofs only [go_sem, seval, f1, f2, f3, f4, f5, f6, f7, f8, f9, f10, f11, f12]
                  exact Rt.mv1 (BaseR.refl hob) (by simp) (vS)
                ·rw [if_pos f11] at h
                 refine X_cond (lx_ok γ) ?_
                 simp -implicitDefEqProofs only [go_sem, seval, f1, f2, f3, f4, f5, f6, f7, f8, f9, f10, f11]
                 refine X_sr (lx_ok γ) ?_
                 simp -implicitDefEqProofs only [go_sem, seval, f1, f2, f3, f4, f5, f6, f7, f8, f9, f10, f11]
                 obtain rfl := sI h
                 refine X_ret ?_
                 simp -implicitDefEqProofs only [go_sem, seval, f1, f2, f3, f4, f5, f6, f7, f8, f9, f10, f11]
                 exact Rt.mv1 (BaseR.refl hob) (by simp) (vS)
               ·refine X_sr (lx_ok γ) ?_
                simp -implicitDefEqProofs only [go_sem, seval, f1, f2, f3, f4, f5, f6, f7, f8, f9, f10]
                cases f14 : (a0 == 20)
                ·rw [if_neg (nF f14)] at h
                 refine X_cond (lx_ok γ) ?_
                 simp -implicitDefEqProofs only [go_sem, seval, f1, f2, f3, f4, f5, f6, f7, f8, f9, f10, f14]
                 refine X_reg (lx_ok γ) ?_
                 simp -implicitDefEqProofs only [go_sem, seval, f1, f2, f3, f4, f5, f6, f7, f8, f9, f10, f14]
                 refine kJ_in ?_ ⟨(a0 == 23), h, rfl, rfl⟩
                 exact To.mv1 (BaseR.refl hob) (by simp) (by simp only [go_sem]; exact ⟨vS, vS⟩)
                ·rw [if_pos f14] at h
                 refine X_cond (lx_ok γ) ?_
                 simp -implicitDefEqProofs only [go_sem, seval, f1, f2, f3, f4, f5, f6, f7, f8, f9, f10, f14]
                 refine X_skip ?_
                 try simp -implicitDefEqProofs only [go_sem]
                 refine kJ_in ?_ ⟨true, h, rfl, rfl⟩
                 exact To.mv1 (BaseR.refl hob) (by simp) (by simp only [go_sem]; exact ⟨vS, vS⟩)
              ·rw [if_pos f10] at h
               refine X_cond (lx_ok γ) ?_
               simp -implicitDefEqProofs only [go_sem, seval, f1, f2, f3, f4, f5, f6, f7, f8, f9, f10]
               refine X_sr (lx_ok γ) ?_
               simp -implicitDefEqProofs only [go_sem, seval, f1, f2, f3, f4, f5, f6, f7, f8, f9, f10]
               obtain rfl := sI h
               refine X_ret ?_
               simp -implicitDefEqProofs only [go_sem, seval, f1, f2, f3, f4, f5, f6, f7, f8, f9, f10]
               exact Rt.mv1 (BaseR.refl hob) (by simp) (vS)
             ·rw [if_pos f9] at h
              refine X_cond (lx_ok γ) ?_
              simp -implicitDefEqProofs only [go_sem, seval, f1, f2, f3, f4, f5, f6, f7, f8, f9]
              refine X_sr (lx_ok γ) ?_
              simp -implicitDefEqProofs only [go_sem, seval, f1, f2, f3, f4, f5, f6, f7, f8, f9]
              obtain rfl := sI h
              refine X_ret ?_
              simp -implicitDefEqProofs only [go_sem, seval, f1, f2, f3, f4, f5, f6, f7, f8, f9]
              exact Rt.mv1 (BaseR.refl hob) (by simp) (vS)
            ·rw [if_pos f8] at h
             refine X_cond (lx_ok γ) ?_
             simp -implicitDefEqProofs only [go_sem, seval, f1, f2, f3, f4, f5, f6, f7, f8]
             refine X_sr (lx_ok γ) ?_
             simp -implicitDefEqProofs only [go_sem, seval, f1, f2, f3, f4, f5, f6, f7, f8]
             obtain rfl := sI h
             refine X_ret ?_
             simp -implicitDefEqProofs only [go_sem, seval, f1, f2, f3, f4, f5, f6, f7, f8]
             exact Rt.mv1 (BaseR.refl hob) (by simp) (vS)
           ·rw [if_pos f7] at h
            refine X_cond (lx_ok γ) ?_
            simp -implicitDefEqProofs only [go_sem, seval, f1, f2, f3, f4, f5, f6, f7]
            refine X_sr (lx_ok γ) ?_
            simp -implicitDefEqProofs only [go_sem, seval, f1, f2, f3, f4, f5, f6, f7]
            obtain rfl := sI h
            refine X_ret ?_
            simp -implicitDefEqProofs only [go_sem, seval, f1, f2, f3, f4, f5, f6, f7]
            exact Rt.mv1 (BaseR.refl hob) (by simp) (vS)
          ·refine X_sr (lx_ok γ) ?_
           simp -implicitDefEqProofs only [go_sem, seval, f1, f2, f3, f4, f5, f6]
           cases f15 : (a0 == 12)
           ·rw [if_neg (nF f15)] at h
            refine X_cond (lx_ok γ) ?_
            simp -implicitDefEqProofs only [go_sem, seval, f1, f2, f3, f4, f5, f6, f15]
            refine X_reg (lx_ok γ) ?_
            simp -implicitDefEqProofs only [go_sem, seval, f1, f2, f3, f4, f5, f6, f15]
            refine kJ_in ?_ ⟨(a0 == 14), h, rfl, rfl⟩
            exact To.mv1 (BaseR.refl hob) (by simp) (by simp only [go_sem]; exact ⟨vS, vS⟩)
           ·rw [if_pos f15] at h
            refine X_cond (lx_ok γ) ?_
            simp -implicitDefEqProofs only [go_sem, seval, f1, f2, f3, f4, f5, f6, f15]
            refine X_skip ?_
            try simp -implicitDefEqProofs only [go_sem]
            refine kJ_in ?_ ⟨true, h, rfl, rfl⟩
            exact To.mv1 (BaseR.refl hob) (by simp) (by simp only [go_sem]; exact ⟨vS, vS⟩)
         ·rw [if_pos f6] at h
          refine X_cond (lx_ok γ) ?_
          simp -implicitDefEqProofs only [go_sem, seval, f1, f2, f3, f4, f5, f6]
          refine X_sr (lx_ok γ) ?_
          simp -implicitDefEqProofs only [go_sem, seval, f1, f2, f3, f4, f5, f6]
          obtain rfl := sI h
          refine X_ret ?_
          simp -implicitDefEqProofs only [go_sem, seval, f1, f2, f3, f4, f5, f6]
          exact Rt.mv1 (BaseR.refl hob) (by simp) (vS)
        ·refine X_sr (lx_ok γ) ?_
         simp -implicitDefEqProofs only [go_sem, seval, f1, f2, f3, f4, f5]
         cases f16 : (a0 == 11)
         ·rw [if_neg (nF f16)] at h
          refine X_cond (lx_ok γ) ?_
          simp -implicitDefEqProofs only [go_sem, seval, f1, f2, f3, f4, f5, f16]
          refine X_sr (lx_ok γ) ?_
          simp -implicitDefEqProofs only [go_sem, seval, f1, f2, f3, f4, f5, f16]
          cases f17 : (a0 == 13)
          ·rw [if_neg (nF f17)] at h
           refine X_cond (lx_ok γ) ?_
           simp -implicitDefEqProofs only [go_sem, seval, f1, f2, f3, f4, f5, f16, f17]
           refine X_reg (lx_ok γ) ?_
           simp -implicitDefEqProofs only [go_sem, seval, f1, f2, f3, f4, f5, f16, f17]
           refine kJ_in ?_ ⟨(a0 == 15), h, rfl, rfl⟩
           exact To.mv1 (BaseR.refl hob) (by simp) (by simp only [go_sem]; exact ⟨vS, vS⟩)
          ·rw [if_pos f17] at h
           refine X_cond (lx_ok γ) ?_
           simp -implicitDefEqProofs only [go_sem, seval, f1, f2, f3, f4, f5, f16, f17]
           refine X_skip ?_
           try simp -implicitDefEqProofs only [go_sem]
           refine kJ_in ?_ ⟨true, h, rfl, rfl⟩
           exact To.mv1 (BaseR.refl hob) (by simp) (by simp only [go_sem]; exact ⟨vS, vS⟩)
         ·rw [if_pos f16] at h
          refine X_cond (lx_ok γ) ?_
          simp -implicitDefEqProofs only [go_sem, seval, f1, f2, f3, f4, f5, f16]
          refine X_skip ?_
          try simp -implicitDefEqProofs only [go_sem]
          refine kJ_in ?_ ⟨true, h, rfl, rfl⟩
          exact To.mv1 (BaseR.refl hob) (by simp) (by simp only [go_sem]; exact ⟨vS, vS⟩)
       ·rw [if_pos f5] at h
        refine X_cond (lx_ok γ) ?_
        simp -implicitDefEqProofs only [go_sem, seval, f1, f2, f3, f4, f5]
        refine X_sr (lx_ok γ) ?_
        simp -implicitDefEqProofs only [go_sem, seval, f1, f2, f3, f4, f5]
        obtain rfl := sI h
        refine X_ret ?_
        simp -implicitDefEqProofs only [go_sem, seval, f1, f2, f3, f4, f5]
        exact Rt.mv1 (BaseR.refl hob) (by simp) (vS)
      ·rw [if_pos f4] at h
       refine X_cond (lx_ok γ) ?_
       simp -implicitDefEqProofs only [go_sem, seval, f1, f2, f3, f4]
       refine X_sr (lx_ok γ) ?_
       simp -implicitDefEqProofs only [go_sem, seval, f1, f2, f3, f4]
       obtain rfl := sI h
       refine X_ret ?_
       simp -implicitDefEqProofs only [go_sem, seval, f1, f2, f3, f4]
       exact Rt.mv1 (BaseR.refl hob) (by simp) (vS)
     ·rw [if_pos f3] at h
      refine X_cond (lx_ok γ) ?_
      simp -implicitDefEqProofs only [go_sem, seval, f1, f2, f3]
      refine X_sr (lx_ok γ) ?_
      simp -implicitDefEqProofs only [go_sem, seval, f1, f2, f3]
      obtain rfl := sI h
      refine X_ret ?_
      simp -implicitDefEqProofs only [go_sem, seval, f1, f2, f3]
      exact Rt.mv1 (BaseR.refl hob) (by simp) (vS)
    ·refine X_sr (lx_ok γ) ?_
     simp -implicitDefEqProofs only [go_sem, seval, f1, f2]
     cases f18 : (a0 == 3)
     ·rw [if_neg (nF f18)] at h
      refine X_cond (lx_ok γ) ?_
      simp -implicitDefEqProofs only [go_sem, seval, f1, f2, f18]
      refine X_sr (lx_ok γ) ?_
      simp -implicitDefEqProofs only [go_sem, seval, f1, f2, f18]
      cases f19 : (a0 == 4)
      ·rw [if_neg (nF f19)] at h
       refine X_cond (lx_ok γ) ?_
       simp -implicitDefEqProofs only [go_sem, seval, f1, f2, f18, f19]
       refine X_sr (lx_ok γ) ?_
       simp -implicitDefEqProofs only [go_sem, seval, f1, f2, f18, f19]
       cases f20 : (a0 == 5)
       ·rw [if_neg (nF f20)] at h
        refine X_cond (lx_ok γ) ?_
        simp -implicitDefEqProofs only [go_sem, seval, f1, f2, f18, f19, f20]
        refine X_sr (lx_ok γ) ?_
        simp -implicitDefEqProofs only [go_sem, seval, f1, f2, f18, f19, f20]
        cases f21 : (a0 == 6)
        ·rw [if_neg (nF f21)] at h
         refine X_cond (lx_ok γ) ?_
         simp -implicitDefEqProofs only [go_sem, seval, f1, f2, f18, f19, f20, f21]
         refine X_reg (lx_ok γ) ?_
         simp -implicitDefEqProofs only [go_sem, seval, f1, f2, f18, f19, f20, f21]
         refine kJ_in ?_ ⟨(a0 == 9), h, rfl, rfl⟩
         exact To.mv1 (BaseR.refl hob) (by simp) (by simp only [go_sem]; exact ⟨vS, vS⟩)
        ·rw [if_pos f21] at h
         refine X_cond (lx_ok γ) ?_
         simp -implicitDefEqProofs only [go_sem, seval, f1, f2, f18, f19, f20, f21]
         refine X_skip ?_
         try simp -implicitDefEqProofs only [go_sem]
         refine kJ_in ?_ ⟨true, h, rfl, rfl⟩
         exact To.mv1 (BaseR.refl hob) (by simp) (by simp only [go_sem]; exact ⟨vS, vS⟩)
       ·rw [if_pos f20] at h
        refine X_cond (lx_ok γ) ?_
        simp -implicitDefEqProofs only [go_sem, seval, f1, f2, f18, f19, f20]
        refine X_skip ?_
        try simp -implicitDefEqProofs only [go_sem]
        refine kJ_in ?_ ⟨true, h, rfl, rfl⟩
        exact To.mv1 (BaseR.refl hob) (by simp) (by simp only [go_sem]; exact ⟨vS, vS⟩)
      ·rw [if_pos f19] at h
       refine X_cond (lx_ok γ) ?_
       simp -implicitDefEqProofs only [go_sem, seval, f1, f2, f18, f19]
       refine X_skip ?_
       try simp -implicitDefEqProofs only [go_sem]
       refine kJ_in ?_ ⟨true, h, rfl, rfl⟩
       exact To.mv1 (BaseR.refl hob) (by simp) (by simp only [go_sem]; exact ⟨vS, vS⟩)
     ·rw [if_pos f18] at h
      refine X_cond (lx_ok γ) ?_
      simp -implicitDefEqProofs only [go_sem, seval, f1, f2, f18]
      refine X_skip ?_
      try simp -implicitDefEqProofs only [go_sem]
      refine kJ_in ?_ ⟨true, h, rfl, rfl⟩
      exact To.mv1 (BaseR.refl hob) (by simp) (by simp only [go_sem]; exact ⟨vS, vS⟩)
   ·rw [if_pos f2] at h
    refine X_cond (lx_ok γ) ?_
    simp -implicitDefEqProofs only [go_sem, seval, f1, f2]
    refine X_sr (lx_ok γ) ?_
    simp -implicitDefEqProofs only [go_sem, seval, f1, f2]
    obtain rfl := sI h
    refine X_ret ?_
    simp -implicitDefEqProofs only [go_sem, seval, f1, f2]
    exact Rt.mv1 (BaseR.refl hob) (by simp) (vS)
  ·refine X_sr (lx_ok γ) ?_
   simp -implicitDefEqProofs only [go_sem, seval, f1]
   cases f22 : (a0 == 2)
   ·rw [if_neg (nF f22)] at h
    refine X_cond (lx_ok γ) ?_
    simp -implicitDefEqProofs only [go_sem, seval, f1, f22]
    refine X_sr (lx_ok γ) ?_
    simp -implicitDefEqProofs only [go_sem, seval, f1, f22]
    cases f23 : (a0 == 8)
    ·rw [if_neg (nF f23)] at h
     refine X_cond (lx_ok γ) ?_
     simp -implicitDefEqProofs only [go_sem, seval, f1, f22, f23]
     refine X_reg (lx_ok γ) ?_
     simp -implicitDefEqProofs only [go_sem, seval, f1, f22, f23]
     refine kJ_in ?_ ⟨(a0 == 17), h, rfl, rfl⟩
     exact To.mv1 (BaseR.refl hob) (by simp) (by simp only [go_sem]; exact ⟨vS, vS⟩)
    ·rw [if_pos f23] at h
     refine X_cond (lx_ok γ) ?_
     simp -implicitDefEqProofs only [go_sem, seval, f1, f22, f23]
     refine X_skip ?_
     try simp -implicitDefEqProofs only [go_sem]
     refine kJ_in ?_ ⟨true, h, rfl, rfl⟩
     exact To.mv1 (BaseR.refl hob) (by simp) (by simp only [go_sem]; exact ⟨vS, vS⟩)
   ·rw [if_pos f22] at h
    refine X_cond (lx_ok γ) ?_
    simp -implicitDefEqProofs only [go_sem, seval, f1, f22]
    refine X_skip ?_
    try simp -implicitDefEqProofs only [go_sem]
    refine kJ_in ?_ ⟨true, h, rfl, rfl⟩
    exact To.mv1 (BaseR.refl hob) (by simp) (by simp only [go_sem]; exact ⟨vS, vS⟩)
 ·rw [if_pos f1] at h
  refine X_cond (lx_ok γ) ?_
  simp -implicitDefEqProofs only [go_sem, seval, f1]
  refine X_sr (lx_ok γ) ?_
  simp -implicitDefEqProofs only [go_sem, seval, f1]
  obtain rfl := sI h
  refine X_ret ?_
  simp -implicitDefEqProofs only [go_sem, seval, f1]
  exact Rt.mv1 (BaseR.refl hob) (by simp) (vS)
end Go.Pf
end
section
set_option maxRecDepth 100000
namespace Go.Pf
open Go Go.Ab Go.Pp Go.Proofs Go.Proofs.S04
attribute [local go_sem] Lxτ Lxγ gam0 Int.toNat_natCast tau3 tau5 tau9 eI eB eS e_Ins e_Block e_Func e_Prog e_code_writer e_code_reader e_Edge
set_option maxHeartbeats 1000000 in
theorem portolanref04_has_ok (γ : GT) (ob : OT) {a0 : Int} {a1 : Int} {r : Bool} (h : portolanref04_has a0 a1 = some r) :
  Valid (Lx γ) 45 [vint .i64 a0, vint .u8 a1] ob (vbool r) ob := by
 refine valid_X (lx_ok γ) (fn := Tryd.f45) (rs := [.tmp 4]) Tryd.func45 (by kernel_rfl) rfl rfl Tryd.ntmps45 rfl (by simp) fun hb hob => ?_
 rw [portolanref04_has] at h
 refine X_sr (lx_ok γ) ?_
 simp -implicitDefEqProofs only [go_sem, seval]
 refine X_sr (lx_ok γ) ?_
 obtain ⟨x1, f1, h⟩ := bindE h
 simp -implicitDefEqProofs only [go_sem, seval]
 refine callV_eq (portolanref03_Parts_ok γ _  f1) rfl rfl ?_
 simp -implicitDefEqProofs only [go_sem, seval]
 refine X_seq ?_
 refine X_sr (lx_ok γ) ?_
 simp -implicitDefEqProofs only [go_sem, seval]
 refine X_jq (J := fun as1 ob1 => portolanref04_has.k1 = some r ∧ [] = as1 ∧ ob = ob1) ?_ ?_
 ·rintro as1 ob1 ⟨h, rfl, rfl⟩
  rw [portolanref04_has.k1] at h
  simp -implicitDefEqProofs only [go_sem, seval]
  refine X_sr (lx_ok γ) ?_
  simp -implicitDefEqProofs only [go_sem, seval]
  obtain rfl := sI h
  refine X_ret ?_
  simp -implicitDefEqProofs only [go_sem, seval]
  exact Rt.mv1 (BaseR.refl hob) (by simp) (vS)
 ·refine X_block ?_
  obtain ⟨lr1, hl1, hk1, hr1⟩ := aft2 h
  refine X_forN hl1 (fun (i1 : Nat) (s : Unit) as1 ob1 => [(1, vint .u8 a1), (5, vstr x1), (6, vint .i64 (i1 : Int))] = as1 ∧ ob = ob1) ⟨_, _, ?_, rfl, rfl⟩ ?_ ?_
  ·exact To.mv1 (BaseR.refl hob) (by simp) (by simp only [go_sem]; exact ⟨vS, vS, VM.eqv (by simp) (by simp)⟩)
  ·rintro i1 _ o1 hi1 hw1 h ho1 as1 ob1 ⟨rfl, rfl⟩
   rw [portolanref04_has.b1] at h
   refine X_seq ?_
   refine X_sr (lx_ok γ) ?_
   simp -implicitDefEqProofs only [go_sem, seval, hi1]
   refine X_cond (lx_ok γ) ?_
   simp -implicitDefEqProofs only [go_sem, seval, hi1]
   refine X_skip ?_
   try simp -implicitDefEqProofs only [go_sem]
   refine X_seq ?_
   refine X_block ?_
   refine X_sr (lx_ok γ) ?_
   obtain ⟨x3, f2, h⟩ := bindE h
   obtain ⟨f3, f4, f5, f6⟩ := ixS_some f2
   try simp only [Int.toNat_natCast, Int.reduceToNat] at f5
   replace f6 := f6.symm
   simp -implicitDefEqProofs only [go_sem, seval, hi1, f3, f5, f6]
   cases f7 : (x3 == a1)
   ·rw [if_neg (nF f7)] at h
    refine X_cond (lx_ok γ) ?_
    simp -implicitDefEqProofs only [go_sem, seval, hi1, f7, f3, f5, f6]
    refine X_skip ?_
    try simp -implicitDefEqProofs only [go_sem]
    refine X_reg (lx_ok γ) ?_
    obtain rfl := sI h
    simp -implicitDefEqProofs only [go_sem, seval, hi1, f7]
    refine kR_in rfl ?_ ⟨rfl, rfl⟩
    exact To.mv1 (BaseR.refl hob) (by simp) (by simp only [go_sem]; exact ⟨vS, vS, VM.eqv (by rw [hw1]) (by simp)⟩)
   ·rw [if_pos f7] at h
    refine X_cond (lx_ok γ) ?_
    simp -implicitDefEqProofs only [go_sem, seval, hi1, f7, f3, f5, f6]
    refine X_sr (lx_ok γ) ?_
    simp -implicitDefEqProofs only [go_sem, seval, hi1, f7]
    obtain rfl := sI h
    have h := hr1 _ (ho1 (fun _ hs => nomatch hs))
    obtain rfl := sI h
    refine X_ret ?_
    simp -implicitDefEqProofs only [go_sem, seval, hi1, f7]
    exact Rt.mv1 (BaseR.refl hob) (by simp) (vS)
  ·rintro i1 _ hi1 hn1 as1 ob1 ⟨rfl, rfl⟩
   refine X_seq ?_
   refine X_sr (lx_ok γ) ?_
   simp -implicitDefEqProofs only [go_sem, seval, hi1]
   refine X_cond (lx_ok γ) ?_
   simp -implicitDefEqProofs only [go_sem, seval, hi1]
   have h := hk1 _ (.inl hn1)
   refine X_exit ?_
   try simp -implicitDefEqProofs only [go_sem, ↓reduceIte, Nat.reduceEqDiff, reduceCtorEq]
   refine kJ_in ?_ ⟨h, rfl, rfl⟩
   exact To.mv1 (BaseR.refl hob) (by simp) trivial
end Go.Pf
end
section
set_option maxRecDepth 100000
namespace Go.Pf
open Go Go.Ab Go.Pp Go.Proofs Go.Proofs.S04
attribute [local go_sem] Lxτ Lxγ gam0 Int.toNat_natCast tau3 tau4 tau5 tau28 tau35 eI eB eS e_Ins e_Block e_Func e_Prog e_code_writer e_code_reader e_Edge
set_option maxHeartbeats 1000000 in
theorem portolanref04_Sets_ok (γ : GT) (ob : OT) {a0 : Ins} {v0_6 : V} (hv0_6 : rdK (getO ob) 1 v0_6 = some (List.map (eI .i64) a0.Args)) {r : Int × Bool} (h : portolanref04_Sets a0 = some r) :
  Valid (Lx γ) 16 [V.agg [vint .i64 a0.Op, vint .i64 a0.D, vint .i64 a0.A, vint .i64 a0.B, vint .i64 a0.N, vint .i64 a0.M, v0_6]] ob (V.tup [vint .i64 r.1, vbool r.2]) ob := by
 refine valid_X (lx_ok γ) (fn := Tryd.f16) (rs := [.tmp 2, .tmp 3]) Tryd.func16 (by kernel_rfl) rfl rfl Tryd.ntmps16 rfl (by simp) fun hb hob => ?_
 have hq := rd4 hv0_6
 rw [portolanref04_Sets] at h
 refine X_sr (lx_ok γ) ?_
 simp -implicitDefEqProofs only [go_sem, seval, hq]
 refine X_seq ?_
 refine X_sr (lx_ok γ) ?_
 obtain ⟨x1, f1, h⟩ := bindE h
 simp -implicitDefEqProofs only [go_sem, seval, hq]
 refine callV_eq (portolanref04_has_ok γ _  f1) rfl rfl ?_
 simp -implicitDefEqProofs only [go_sem, seval, hq]
 cases f2 : x1
 ·rw [if_neg (nF f2)] at h
  refine X_cond (lx_ok γ) ?_
  simp -implicitDefEqProofs only [go_sem, seval, f2, hq]
  refine X_sr (lx_ok γ) ?_
  simp -implicitDefEqProofs only [go_sem, seval, f2, hq]
  obtain rfl := sI h
  refine X_ret ?_
  simp -implicitDefEqProofs only [go_sem, seval, f2, hq]
  exact Rt.mv0 (BaseR.refl hob) (by simp) (VM.tup ⟨vS, vS, trivial⟩)
 ·rw [if_pos f2] at h
  refine X_cond (lx_ok γ) ?_
  simp -implicitDefEqProofs only [go_sem, seval, f2, hq]
  refine X_skip ?_
  try simp -implicitDefEqProofs only [go_sem]
  refine X_sr (lx_ok γ) ?_
  simp -implicitDefEqProofs only [go_sem, seval, f2, hq]
  obtain rfl := sI h
  refine X_ret ?_
  simp -implicitDefEqProofs only [go_sem, seval, f2, hq]
  exact Rt.mv0 (BaseR.refl hob) (by simp) (VM.tup ⟨vS, vS, trivial⟩)
end Go.Pf
end
section
set_option maxRecDepth 100000
namespace Go.Pf
open Go Go.Ab Go.Pp Go.Proofs Go.Proofs.S04
attribute [local go_sem] Lxτ Lxγ gam0 Int.toNat_natCast tau3 tau5 tau28 tau35 eI eB eS e_Ins e_Block e_Func e_Prog e_code_writer e_code_reader e_Edge
set_option maxHeartbeats 1000000 in
theorem portolanref04_Uses_ok (γ : GT) (ob : OT) {a0 : Ins} {v0_6 : V} (hv0_6 : rdK (getO ob) 1 v0_6 = some (List.map (eI .i64) a0.Args)) {r : List Int} (h : portolanref04_Uses a0 = some r) :
  Valid (Lx γ) 23 [V.agg [vint .i64 a0.Op, vint .i64 a0.D, vint .i64 a0.A, vint .i64 a0.B, vint .i64 a0.N, vint .i64 a0.M, v0_6]] ob (V.row ob.length 0 0 (List.length r)) (ob ++ [some (O.row 1 0 (List.map (eI .i64) r))]) := by
 refine valid_X (lx_ok γ) (fn := Tryd.f23) (rs := [.tmp 2]) Tryd.func23 (by kernel_rfl) rfl rfl Tryd.ntmps23 rfl (by simp) fun hb hob => ?_
 have hq := rd4 hv0_6
 rw [portolanref04_Uses] at h
 refine X_sr (lx_ok γ) ?_
 simp -implicitDefEqProofs only [go_sem, seval, hq]
 refine X_sr (lx_ok γ) ?_
 simp -implicitDefEqProofs only [go_sem, seval, hq]
 refine X_seq ?_
 refine X_jq (J := fun as1 ob1 => ∃ (x1 : List Int), portolanref04_Uses.j1 a0 x1 = some r ∧ [(1, V.ref ob.length 0), (3, V.row (ob.length + 1) 0 0 (List.length x1))] = as1 ∧ ob ++ [some (O.box [vint .i64 a0.Op, vint .i64 a0.D, vint .i64 a0.A, vint .i64 a0.B, vint .i64 a0.N, vint .i64 a0.M, v0_6]), some (O.row 1 0 (List.map (eI .i64) x1))] = ob1) ?_ ?_
 ·rintro as1 ob1 ⟨x1, h, rfl, rfl⟩
  rw [portolanref04_Uses.j1] at h
  simp -implicitDefEqProofs only [go_sem, seval, hq]
  refine X_seq ?_
  refine X_jq (J := fun as1 ob1 => ∃ (x2 : List Int), portolanref04_Uses.j2 a0 x2 = some r ∧ [(1, V.ref ob.length 0), (3, V.row (ob.length + 1) 0 0 (List.length x2))] = as1 ∧ ob ++ [some (O.box [vint .i64 a0.Op, vint .i64 a0.D, vint .i64 a0.A, vint .i64 a0.B, vint .i64 a0.N, vint .i64 a0.M, v0_6]), some (O.row 1 0 (List.map (eI .i64) x2))] = ob1) ?_ ?_
  ·rintro as1 ob1 ⟨x2, h, rfl, rfl⟩
   rw [portolanref04_Uses.j2] at h
   simp -implicitDefEqProofs only [go_sem, seval, hq]
   refine X_seq ?_
   refine X_sr (lx_ok γ) ?_
   obtain ⟨x3, f1, h⟩ := bindE h
   simp -implicitDefEqProofs only [go_sem, seval, hq]
   refine callV_eq (portolanref04_has_ok γ _  f1) rfl rfl ?_
   simp -implicitDefEqProofs only [go_sem, seval, hq]
   cases f2 : x3
   ·rw [if_neg (nF f2)] at h
    refine X_cond (lx_ok γ) ?_
    simp -implicitDefEqProofs only [go_sem, seval, f2, hq]
    refine X_skip ?_
    try simp -implicitDefEqProofs only [go_sem]
    refine X_sr (lx_ok γ) ?_
    simp -implicitDefEqProofs only [go_sem, seval, f2, hq]
    obtain rfl := sI h
    refine X_ret ?_
    simp -implicitDefEqProofs only [go_sem, seval, f2, hq]
    exact Rt.mv [(1, 0)] (BaseR.refl hob) (by simp) (by decide) (VM.rowL (j := 1) (t := 0) rfl (by first | rfl | simp | simp_all | omega)) ⟨⟨_, rfl, OM.row' (by first | rfl | simp_all)⟩, trivial⟩
   ·rw [if_pos f2] at h
    refine X_cond (lx_ok γ) ?_
    simp -implicitDefEqProofs only [go_sem, seval, f2, hq]
    refine X_reg (lx_ok γ) ?_
    obtain ⟨x4, f3, h⟩ := bindE h
    have f4 : List.length x4 * 8 ≤ 140737488355328 := by have := (appL_some f3).1; rw [(appL_some f3).2]; simpa using this
    have f5 : List.map (eI .i64) x2 ++ List.map (eI .i64) a0.Args = List.map (eI .i64) x4 := by rw [(appL_some f3).2]; simp [eB, eI, eS]
    have f6 : List.length x2 + List.length a0.Args = List.length x4 := by rw [(appL_some f3).2]; simp
    simp -implicitDefEqProofs only [go_sem, seval, f2, hq, f4, f5, f6]
    refine X_sr (lx_ok γ) ?_
    simp -implicitDefEqProofs only [go_sem, seval, f2, hq]
    obtain rfl := sI h
    refine X_ret ?_
    simp -implicitDefEqProofs only [go_sem, seval, f2, hq]
    exact Rt.mv [(1, 1)] (BaseR.refl hob) (by simp) (by decide) (VM.rowL (j := 1) (t := 0) rfl (by first | rfl | simp | simp_all | omega)) ⟨⟨_, rfl, OM.row' (by first | rfl | simp_all)⟩, trivial⟩
  ·refine X_sr (lx_ok γ) ?_
   obtain ⟨x5, f7, h⟩ := bindE h
   simp -implicitDefEqProofs only [go_sem, seval, hq]
   refine callV_eq (portolanref04_has_ok γ _  f7) rfl rfl ?_
   simp -implicitDefEqProofs only [go_sem, seval, hq]
   cases f8 : x5
   ·rw [if_neg (nF f8)] at h
    refine X_cond (lx_ok γ) ?_
    simp -implicitDefEqProofs only [go_sem, seval, f8, hq]
    refine X_skip ?_
    try simp -implicitDefEqProofs only [go_sem]
    refine kJ_in ?_ ⟨x1, h, rfl, rfl⟩
    exact To.mv [(0, 0), (1, 0)] (BaseR.refl hob) (by simp) (by decide) (by simp only [go_sem]; exact ⟨VM.refA (j := 0) (t := 0) rfl, VM.rowL (j := 1) (t := 1) rfl (by first | rfl | simp | simp_all | omega)⟩) ⟨⟨_, rfl, OM.box _ _ ⟨vS, vS, vS, vS, vS, vS, VM.self (by simpa using Bd.of_rdK hv0_6), trivial⟩⟩, ⟨_, rfl, OM.row' (by first | rfl | simp_all)⟩, trivial⟩
   ·rw [if_pos f8] at h
    refine X_cond (lx_ok γ) ?_
    simp -implicitDefEqProofs only [go_sem, seval, f8, hq]
    refine X_reg (lx_ok γ) ?_
    obtain ⟨x6, f9, h⟩ := bindE h
    have f10 : List.length x6 * 8 ≤ 140737488355328 := by have := (appL_some f9).1; rw [(appL_some f9).2]; simpa using this
    have f11 : List.map (eI .i64) x1 ++ [[.lit (.int .i64 a0.B)]] = List.map (eI .i64) x6 := by rw [(appL_some f9).2]; simp [eB, eI, eS]
    have f12 : List.length x1 + 1 = List.length x6 := by rw [(appL_some f9).2]; simp
    simp -implicitDefEqProofs only [go_sem, seval, f8, hq, f10, f11, f12]
    refine kJ_in ?_ ⟨x6, h, rfl, rfl⟩
    exact To.mv [(0, 0), (1, 1)] (BaseR.refl hob) (by simp) (by decide) (by simp only [go_sem]; exact ⟨VM.refA (j := 0) (t := 0) rfl, VM.rowL (j := 1) (t := 1) rfl (by first | rfl | simp | simp_all | omega)⟩) ⟨⟨_, rfl, OM.box _ _ ⟨vS, vS, vS, vS, vS, vS, VM.self (by simpa using Bd.of_rdK hv0_6), trivial⟩⟩, ⟨_, rfl, OM.row' (by first | rfl | simp_all)⟩, trivial⟩
 ·refine X_sr (lx_ok γ) ?_
  obtain ⟨x7, f13, h⟩ := bindE h
  simp -implicitDefEqProofs only [go_sem, seval, hq]
  refine callV_eq (portolanref04_has_ok γ _  f13) rfl rfl ?_
  simp -implicitDefEqProofs only [go_sem, seval, hq]
  cases f14 : x7
  ·rw [if_neg (nF f14)] at h
   refine X_cond (lx_ok γ) ?_
   simp -implicitDefEqProofs only [go_sem, seval, f14, hq]
   refine X_skip ?_
   try simp -implicitDefEqProofs only [go_sem]
   refine kJ_in ?_ ⟨[], h, rfl, rfl⟩
   exact To.trans (To.gh (as' := [(1, _), (3, V.row (ob.length + 1) 0 0 0)]) (l' := [some (O.box [_, _, _, _, _, _, _])]) 1 ⟨VG.refl _ _ _, VG.nilL, trivial⟩ ⟨Or.inl rfl, trivial⟩) (To.mv [(0, 0), (1, 0)] (BaseR.refl hob) (by simp) (by decide) (by simp only [go_sem]; exact ⟨VM.refA (j := 0) (t := 0) rfl, VM.rowL (j := 1) (t := 1) rfl (by simp)⟩) ⟨⟨_, rfl, OM.box _ _ ⟨vS, vS, vS, vS, vS, vS, VM.self (by simpa using Bd.of_rdK hv0_6), trivial⟩⟩, ⟨_, rfl, OM.row' rfl⟩, trivial⟩)
  ·rw [if_pos f14] at h
   refine X_cond (lx_ok γ) ?_
   simp -implicitDefEqProofs only [go_sem, seval, f14, hq]
   refine X_reg (lx_ok γ) ?_
   simp -implicitDefEqProofs only [go_sem, seval, f14, hq]
   refine kJ_in ?_ ⟨[a0.A], h, rfl, rfl⟩
   exact To.mv [(0, 0), (2, 0)] (BaseR.refl hob) (by simp) (by decide) (by simp only [go_sem]; exact ⟨VM.refA (j := 0) (t := 0) rfl, VM.rowL (j := 2) (t := 1) rfl (by first | rfl | simp | simp_all | omega)⟩) ⟨⟨_, rfl, OM.box _ _ ⟨vS, vS, vS, vS, vS, vS, VM.self (by simpa using Bd.of_rdK hv0_6), trivial⟩⟩, ⟨_, rfl, OM.row' (by first | rfl | simp_all)⟩, trivial⟩
end Go.Pf
end
section
set_option maxRecDepth 100000
namespace Go.Pf
open Go Go.Ab Go.Pp Go.Proofs Go.Proofs.S04
attribute [local go_sem] Lxτ Lxγ gam0 Int.toNat_natCast tau3 tau28 tau35 eI eB eS e_Ins e_Block e_Func e_Prog e_code_writer e_code_reader e_Edge
set_option maxHeartbeats 1000000 in
theorem portolanref04_Next_ok (γ : GT) (ob : OT) {a0 : Ins} {v0_6 : V} (hv0_6 : rdK (getO ob) 1 v0_6 = some (List.map (eI .i64) a0.Args)) {r : List Int} (h : portolanref04_Next a0 = some r) :
  Valid (Lx γ) 25 [V.agg [vint .i64 a0.Op, vint .i64 a0.D, vint .i64 a0.A, vint .i64 a0.B, vint .i64 a0.N, vint .i64 a0.M, v0_6]] ob (V.row ob.length 0 0 (List.length r)) (ob ++ [some (O.row 1 0 (List.map (eI .i64) r))]) := by
 refine valid_X (lx_ok γ) (fn := Tryd.f25) (rs := [.tmp 2]) Tryd.func25 (by kernel_rfl) rfl rfl Tryd.ntmps25 rfl (by simp) fun hb hob => ?_
 have hq := rd4 hv0_6
 rw [portolanref04_Next] at h
 refine X_sr (lx_ok γ) ?_
 simp -implicitDefEqProofs only [go_sem, seval, hq]
 refine X_seq ?_
 refine X_sr (lx_ok γ) ?_
 simp -implicitDefEqProofs only [go_sem, seval, hq]
 refine X_block ?_
 refine X_sr (lx_ok γ) ?_
 simp -implicitDefEqProofs only [go_sem, seval, hq]
 cases f1 : (a0.Op == 21)
 ·rw [if_neg (nF f1)] at h
  refine X_cond (lx_ok γ) ?_
  simp -implicitDefEqProofs only [go_sem, seval, f1, hq]
  refine X_sr (lx_ok γ) ?_
  simp -implicitDefEqProofs only [go_sem, seval, f1, hq]
  cases f2 : (a0.Op == 22)
  ·rw [if_neg (nF f2)] at h
   refine X_cond (lx_ok γ) ?_
   simp -implicitDefEqProofs only [go_sem, seval, f1, f2, hq]
   refine X_skip ?_
   try simp -implicitDefEqProofs only [go_sem]
   refine X_sr (lx_ok γ) ?_
   simp -implicitDefEqProofs only [go_sem, seval, f1, f2, hq]
   obtain rfl := sI h
   refine X_ret ?_
   simp -implicitDefEqProofs only [go_sem, seval, f1, f2, hq]
   exact Rt.trans (Rt.mv0 (BaseR.refl hob) (by simp) (vS)) Rt.nilRow
  ·rw [if_pos f2] at h
   refine X_cond (lx_ok γ) ?_
   simp -implicitDefEqProofs only [go_sem, seval, f1, f2, hq]
   refine X_seq ?_
   refine X_sr (lx_ok γ) ?_
   simp -implicitDefEqProofs only [go_sem, seval, f1, f2, hq]
   cases f3 : (a0.N == a0.M)
   ·rw [if_neg (nF f3)] at h
    refine X_cond (lx_ok γ) ?_
    simp -implicitDefEqProofs only [go_sem, seval, f1, f2, f3, hq]
    refine X_skip ?_
    try simp -implicitDefEqProofs only [go_sem]
    refine X_sr (lx_ok γ) ?_
    simp -implicitDefEqProofs only [go_sem, seval, f1, f2, f3, hq]
    obtain rfl := sI h
    refine X_ret ?_
    simp -implicitDefEqProofs only [go_sem, seval, f1, f2, f3, hq]
    exact Rt.mv [(1, 0)] (BaseR.refl hob) (by simp) (by decide) (VM.rowL (j := 1) (t := 0) rfl (by first | rfl | simp | simp_all | omega)) ⟨⟨_, rfl, OM.row' (by first | rfl | simp_all)⟩, trivial⟩
   ·rw [if_pos f3] at h
    refine X_cond (lx_ok γ) ?_
    simp -implicitDefEqProofs only [go_sem, seval, f1, f2, f3, hq]
    refine X_sr (lx_ok γ) ?_
    simp -implicitDefEqProofs only [go_sem, seval, f1, f2, f3, hq]
    obtain rfl := sI h
    refine X_ret ?_
    simp -implicitDefEqProofs only [go_sem, seval, f1, f2, f3, hq]
    exact Rt.mv [(1, 0)] (BaseR.refl hob) (by simp) (by decide) (VM.rowL (j := 1) (t := 0) rfl (by first | rfl | simp | simp_all | omega)) ⟨⟨_, rfl, OM.row' (by first | rfl | simp_all)⟩, trivial⟩
 ·rw [if_pos f1] at h
  refine X_cond (lx_ok γ) ?_
  simp -implicitDefEqProofs only [go_sem, seval, f1, hq]
  refine X_sr (lx_ok γ) ?_
  simp -implicitDefEqProofs only [go_sem, seval, f1, hq]
  obtain rfl := sI h
  refine X_ret ?_
  simp -implicitDefEqProofs only [go_sem, seval, f1, hq]
  exact Rt.mv [(1, 0)] (BaseR.refl hob) (by simp) (by decide) (VM.rowL (j := 1) (t := 0) rfl (by first | rfl | simp | simp_all | omega)) ⟨⟨_, rfl, OM.row' (by first | rfl | simp_all)⟩, trivial⟩
end Go.Pf
end
section
set_option maxRecDepth 100000
namespace Go.Pf
open Go Go.Ab Go.Pp Go.Proofs Go.Proofs.S04
attribute [local go_sem] Lxτ Lxγ gam0 Int.toNat_natCast List.append_eq List.cons_append List.nil_append tau3 tau5 tau28 tau35 eI eB eS e_Ins e_Block e_Func e_Prog e_code_writer e_code_reader e_Edge
set_option maxHeartbeats 1000000 in
theorem portolanref04_bare_ok (γ : GT) (ob : OT) {a0 : Ins} {v0_6 : V} (hv0_6 : rdK (getO ob) 1 v0_6 = some (List.map (eI .i64) a0.Args)) {r : Bool} (h : portolanref04_bare a0 = some r) :
  Valid (Lx γ) 53 [V.agg [vint .i64 a0.Op, vint .i64 a0.D, vint .i64 a0.A, vint .i64 a0.B, vint .i64 a0.N, vint .i64 a0.M, v0_6]] ob (vbool r) ob := by
 refine valid_X (lx_ok γ) (fn := Tryd.f53) (rs := [.tmp 2]) Tryd.func53 (by kernel_rfl) rfl rfl Tryd.ntmps53 rfl (by simp) fun hb hob => ?_
 have hq := rd4 hv0_6
 rw [portolanref04_bare] at h
 refine X_sr (lx_ok γ) ?_
 simp -implicitDefEqProofs only [go_sem, seval, hq]
 refine X_sr (lx_ok γ) ?_
 cases f1 : (a0.D == 0)
 ·rw [if_neg (nF f1)] at h
  obtain ⟨x1, f2, h⟩ := bindE h
  simp -implicitDefEqProofs only [go_sem, seval, f1, hq]
  refine callV_eq (portolanref04_has_ok γ _  f2) rfl rfl ?_
  cases f3 : x1
  ·rw [if_neg (nF f3)] at h
   simp -implicitDefEqProofs only [go_sem, seval, f1, f3, hq]
   obtain rfl := sI h
   refine X_ret ?_
   simp -implicitDefEqProofs only [go_sem, seval, f1, f3, hq]
   exact Rt.mv0 (BaseR.refl hob) (by simp) (vS)
  ·rw [if_pos f3] at h
   cases f4 : (a0.A == 0)
   ·rw [if_neg (nF f4)] at h
    obtain ⟨x2, f5, h⟩ := bindE h
    simp -implicitDefEqProofs only [go_sem, seval, f1, f3, f4, hq]
    refine callV_eq (portolanref04_has_ok γ _  f5) rfl rfl ?_
    cases f6 : x2
    ·rw [if_neg (nF f6)] at h
     simp -implicitDefEqProofs only [go_sem, seval, f1, f3, f4, f6, hq]
     obtain rfl := sI h
     refine X_ret ?_
     simp -implicitDefEqProofs only [go_sem, seval, f1, f3, f4, f6, hq]
     exact Rt.mv0 (BaseR.refl hob) (by simp) (vS)
    ·rw [if_pos f6] at h
     cases f7 : (a0.B == 0)
     ·rw [if_neg (nF f7)] at h
      obtain ⟨x3, f8, h⟩ := bindE h
      simp -implicitDefEqProofs only [go_sem, seval, f1, f3, f4, f6, f7, hq]
      refine callV_eq (portolanref04_has_ok γ _  f8) rfl rfl ?_
      cases f9 : x3
      ·rw [if_neg (nF f9)] at h
       simp -implicitDefEqProofs only [go_sem, seval, f1, f3, f4, f6, f7, f9, hq]
       obtain rfl := sI h
       refine X_ret ?_
       simp -implicitDefEqProofs only [go_sem, seval, f1, f3, f4, f6, f7, f9, hq]
       exact Rt.mv0 (BaseR.refl hob) (by simp) (vS)
      ·rw [if_pos f9] at h
       cases f10 : (a0.N == 0)
       ·rw [if_neg (nF f10)] at h
        obtain ⟨x4, f11, h⟩ := bindE h
        simp -implicitDefEqProofs only [go_sem, seval, f1, f3, f4, f6, f7, f9, f10, hq]
        refine callV_eq (portolanref04_has_ok γ _  f11) rfl rfl ?_
        cases f12 : x4
        ·rw [if_neg (nF f12)] at h
         obtain ⟨x5, f13, h⟩ := bindE h
         simp -implicitDefEqProofs only [go_sem, seval, f1, f3, f4, f6, f7, f9, f10, f12, hq]
         refine callV_eq (portolanref04_has_ok γ _  f13) rfl rfl ?_
         cases f14 : x5
         ·rw [if_neg (nF f14)] at h
          simp -implicitDefEqProofs only [go_sem, seval, f1, f3, f4, f6, f7, f9, f10, f12, f14, hq]
          obtain rfl := sI h
          refine X_ret ?_
          simp -implicitDefEqProofs only [go_sem, seval, f1, f3, f4, f6, f7, f9, f10, f12, f14, hq]
          exact Rt.mv0 (BaseR.refl hob) (by simp) (vS)
         ·rw [if_pos f14] at h
          cases f15 : (a0.M == 0)
          ·rw [if_neg (nF f15)] at h
           obtain ⟨x6, f16, h⟩ := bindE h
           simp -implicitDefEqProofs only [go_sem, seval, f1, f3, f4, f6, f7, f9, f10, f12, f14, f15, hq]
           refine callV_eq (portolanref04_has_ok γ _  f16) rfl rfl ?_
           cases f17 : x6
           ·rw [if_neg (nF f17)] at h
            simp -implicitDefEqProofs only [go_sem, seval, f1, f3, f4, f6, f7, f9, f10, f12, f14, f15, f17, hq]
            obtain rfl := sI h
            refine X_ret ?_
            simp -implicitDefEqProofs only [go_sem, seval, f1, f3, f4, f6, f7, f9, f10, f12, f14, f15, f17, hq]
            exact Rt.mv0 (BaseR.refl hob) (by simp) (vS)
           ·rw [if_pos f17] at h
            cases f18 : ((List.length a0.Args : Int) == 0)
            ·rw [if_neg (nF f18)] at h
             obtain ⟨x7, f19, h⟩ := bindE h
             simp -implicitDefEqProofs only [go_sem, seval, f1, f3, f4, f6, f7, f9, f10, f12, f14, f15, f17, f18, hq]
             refine callV_eq (portolanref04_has_ok γ _  f19) rfl rfl ?_
             simp -implicitDefEqProofs only [go_sem, seval, f1, f3, f4, f6, f7, f9, f10, f12, f14, f15, f17, f18, hq]
             obtain rfl := sI h
             refine X_ret ?_
             simp -implicitDefEqProofs only [go_sem, seval, f1, f3, f4, f6, f7, f9, f10, f12, f14, f15, f17, f18, hq]
             exact Rt.mv0 (BaseR.refl hob) (by simp) (vS)
            ·rw [if_pos f18] at h
             simp -implicitDefEqProofs only [go_sem, seval, f1, f3, f4, f6, f7, f9, f10, f12, f14, f15, f17, f18, hq]
             obtain rfl := sI h
             refine X_ret ?_
             simp -implicitDefEqProofs only [go_sem, seval, f1, f3, f4, f6, f7, f9, f10, f12, f14, f15, f17, f18, hq]
             exact Rt.mv0 (BaseR.refl hob) (by simp) (vS)
          ·rw [if_pos f15] at h
           cases f20 : ((List.length a0.Args : Int) == 0)
           ·rw [if_neg (nF f20)] at h
            obtain ⟨x8, f21, h⟩ := bindE h
            simp -implicitDefEqProofs only [go_sem, seval, f1, f3, f4, f6, f7, f9, f10, f12, f14, f15, f20, hq]
            refine callV_eq (portolanref04_has_ok γ _  f21) rfl rfl ?_
            simp -implicitDefEqProofs only [go_sem, seval, f1, f3, f4, f6, f7, f9, f10, f12, f14, f15, f20, hq]
            obtain rfl := sI h
            refine X_ret ?_
            simp -implicitDefEqProofs only [go_sem, seval, f1, f3, f4, f6, f7, f9, f10, f12, f14, f15, f20, hq]
            exact Rt.mv0 (BaseR.refl hob) (by simp) (vS)
           ·rw [if_pos f20] at h
            simp -implicitDefEqProofs only [go_sem, seval, f1, f3, f4, f6, f7, f9, f10, f12, f14, f15, f20, hq]
            obtain rfl := sI h
            refine X_ret ?_
            simp -implicitDefEqProofs only [go_sem, seval, f1, f3, f4, f6, f7, f9, f10, f12, f14, f15, f20, hq]
            exact Rt.mv0 (BaseR.refl hob) (by simp) (vS)
        ·rw [if_pos f12] at h
         cases f22 : (a0.M == 0)
         ·rw [if_neg (nF f22)] at h
          obtain ⟨x9, f23, h⟩ := bindE h
          simp -implicitDefEqProofs only [go_sem, seval, f1, f3, f4, f6, f7, f9, f10, f12, f22, hq]
          refine callV_eq (portolanref04_has_ok γ _  f23) rfl rfl ?_
          cases f24 : x9
          ·rw [if_neg (nF f24)] at h
           simp -implicitDefEqProofs only [go_sem, seval, f1, f3, f4, f6, f7, f9, f10, f12, f22, f24, hq]
           obtain rfl := sI h
           refine X_ret ?_
           simp -implicitDefEqProofs only [go_sem, seval, f1, f3, f4, f6, f7, f9, f10, f12, f22, f24, hq]
           exact Rt.mv0 (BaseR.refl hob) (by simp) (vS)
          ·rw [if_pos f24] at h
           cases f25 : ((List.length a0.Args : Int) == 0)
           ·rw [if_neg (nF f25)] at h
            obtain ⟨x10, f26, h⟩ := bindE h
            simp -implicitDefEqProofs only [go_sem, seval, f1, f3, f4, f6, f7, f9, f10, f12, f22, f24, f25, hq]
            refine callV_eq (portolanref04_has_ok γ _  f26) rfl rfl ?_
            simp -implicitDefEqProofs only [go_sem, seval, f1, f3, f4, f6, f7, f9, f10, f12, f22, f24, f25, hq]
            obtain rfl := sI h
            refine X_ret ?_
            simp -implicitDefEqProofs only [go_sem, seval, f1, f3, f4, f6, f7, f9, f10, f12, f22, f24, f25, hq]
            exact Rt.mv0 (BaseR.refl hob) (by simp) (vS)
           ·rw [if_pos f25] at h
            simp -implicitDefEqProofs only [go_sem, seval, f1, f3, f4, f6, f7, f9, f10, f12, f22, f24, f25, hq]
            obtain rfl := sI h
            refine X_ret ?_
            simp -implicitDefEqProofs only [go_sem, seval, f1, f3, f4, f6, f7, f9, f10, f12, f22, f24, f25, hq]
            exact Rt.mv0 (BaseR.refl hob) (by simp) (vS)
         ·rw [if_pos f22] at h
          cases f27 : ((List.length a0.Args : Int) == 0)
          ·rw [if_neg (nF f27)] at h
           obtain ⟨x11, f28, h⟩ := bindE h
           simp -implicitDefEqProofs only [go_sem, seval, f1, f3, f4, f6, f7, f9, f10, f12, f22, f27, hq]
           refine callV_eq (portolanref04_has_ok γ _  f28) rfl rfl ?_
           simp -implicitDefEqProofs only [go_sem, seval, f1, f3, f4, f6, f7, f9, f10, f12, f22, f27, hq]
           obtain rfl := sI h
           refine X_ret ?_
           simp -implicitDefEqProofs only [go_sem, seval, f1, f3, f4, f6, f7, f9, f10, f12, f22, f27, hq]
           exact Rt.mv0 (BaseR.refl hob) (by simp) (vS)
          ·rw [if_pos f27] at h
           simp -implicitDefEqProofs only [go_sem, seval, f1, f3, f4, f6, f7, f9, f10, f12, f22, f27, hq]
           obtain rfl := sI h
           refine X_ret ?_
           simp -implicitDefEqProofs only [go_sem, seval, f1, f3, f4, f6, f7, f9, f10, f12, f22, f27, hq]
           exact Rt.mv0 (BaseR.refl hob) (by simp) (vS)
       ·rw [if_pos f10] at h
        cases f29 : (a0.M == 0)
        ·rw [if_neg (nF f29)] at h
         obtain ⟨x12, f30, h⟩ := bindE h
         simp -implicitDefEqProofs only [go_sem, seval, f1, f3, f4, f6, f7, f9, f10, f29, hq]
         refine callV_eq (portolanref04_has_ok γ _  f30) rfl rfl ?_
         cases f31 : x12
         ·rw [if_neg (nF f31)] at h
          simp -implicitDefEqProofs only [go_sem, seval, f1, f3, f4, f6, f7, f9, f10, f29, f31, hq]
          obtain rfl := sI h
          refine X_ret ?_
          simp -implicitDefEqProofs only [go_sem, seval, f1, f3, f4, f6, f7, f9, f10, f29, f31, hq]
          exact Rt.mv0 (BaseR.refl hob) (by simp) (vS)
         ·rw [if_pos f31] at h
          cases f32 : ((List.length a0.Args : Int) == 0)
          ·rw [if_neg (nF f32)] at h
           obtain ⟨x13, f33, h⟩ := bindE h
           simp -implicitDefEqProofs only [go_sem, seval, f1, f3, f4, f6, f7, f9, f10, f29, f31, f32, hq]
           refine callV_eq (portolanref04_has_ok γ _  f33) rfl rfl ?_
           simp -implicitDefEqProofs only [go_sem, seval, f1, f3, f4, f6, f7, f9, f10, f29, f31, f32, hq]
           obtain rfl := sI h
           refine X_ret ?_
           simp -implicitDefEqProofs only [go_sem, seval, f1, f3, f4, f6, f7, f9, f10, f29, f31, f32, hq]
           exact Rt.mv0 (BaseR.refl hob) (by simp) (vS)
          ·rw [if_pos f32] at h
           simp -implicitDefEqProofs only [go_sem, seval, f1, f3, f4, f6, f7, f9, f10, f29, f31, f32, hq]
           obtain rfl := sI h
           refine X_ret ?_
           simp -implicitDefEqProofs only [go_sem, seval, f1, f3, f4, f6, f7, f9, f10, f29, f31, f32, hq]
           exact Rt.mv0 (BaseR.refl hob) (by simp) (vS)
        ·rw [if_pos f29] at h
         cases f34 : ((List.length a0.Args : Int) == 0)
         ·rw [if_neg (nF f34)] at h
          obtain ⟨x14, f35, h⟩ := bindE h
          simp -implicitDefEqProofs only [go_sem, seval, f1, f3, f4, f6, f7, f9, f10, f29, f34, hq]
          refine callV_eq (portolanref04_has_ok γ _  f35) rfl rfl ?_
          simp -implicitDefEqProofs only [go_sem, seval, f1, f3, f4, f6, f7, f9, f10, f29, f34, hq]
          obtain rfl := sI h
          refine X_ret ?_
          simp -implicitDefEqProofs only [go_sem, seval, f1, f3, f4, f6, f7, f9, f10, f29, f34, hq]
          exact Rt.mv0 (BaseR.refl hob) (by simp) (vS)
         ·rw [if_pos f34] at h
          simp -implicitDefEqProofs only [go_sem, seval, f1, f3, f4, f6, f7, f9, f10, f29, f34, hq]
          obtain rfl := sI h
          refine X_ret ?_
          simp -implicitDefEqProofs only [go_sem, seval, f1, f3, f4, f6, f7, f9, f10, f29, f34, hq]
          exact Rt.mv0 (BaseR.refl hob) (by simp) (vS)
     ·rw [if_pos f7] at h
      cases f36 : (a0.N == 0)
      ·rw [if_neg (nF f36)] at h
       obtain ⟨x15, f37, h⟩ := bindE h
       simp -implicitDefEqProofs only [go_sem, seval, f1, f3, f4, f6, f7, f36, hq]
       refine callV_eq (portolanref04_has_ok γ _  f37) rfl rfl ?_
       cases f38 : x15
       ·rw [if_neg (nF f38)] at h
        obtain ⟨x16, f39, h⟩ := bindE h
        simp -implicitDefEqProofs only [go_sem, seval, f1, f3, f4, f6, f7, f36, f38, hq]
        refine callV_eq (portolanref04_has_ok γ _  f39) rfl rfl ?_
        cases f40 : x16
        ·rw [if_neg (nF f40)] at h
         simp -implicitDefEqProofs only [go_sem, seval, f1, f3, f4, f6, f7, f36, f38, f40, hq]
         obtain rfl := sI h
         refine X_ret ?_
         simp -implicitDefEqProofs only [go_sem, seval, f1, f3, f4, f6, f7, f36, f38, f40, hq]
         exact Rt.mv0 (BaseR.refl hob) (by simp) (vS)
        ·rw [if_pos f40] at h
         cases f41 : (a0.M == 0)
         ·rw [if_neg (nF f41)] at h
          obtain ⟨x17, f42, h⟩ := bindE h
          simp -implicitDefEqProofs only [go_sem, seval, f1, f3, f4, f6, f7, f36, f38, f40, f41, hq]
          refine callV_eq (portolanref04_has_ok γ _  f42) rfl rfl ?_
          cases f43 : x17
          ·rw [if_neg (nF f43)] at h
           simp -implicitDefEqProofs only [go_sem, seval, f1, f3, f4, f6, f7, f36, f38, f40, f41, f43, hq]
           obtain rfl := sI h
           refine X_ret ?_
           simp -implicitDefEqProofs only [go_sem, seval, f1, f3, f4, f6, f7, f36, f38, f40, f41, f43, hq]
           exact Rt.mv0 (BaseR.refl hob) (by simp) (vS)
          ·rw [if_pos f43] at h
           cases f44 : ((List.length a0.Args : Int) == 0)
           ·rw [if_neg (nF f44)] at h
            obtain ⟨x18, f45, h⟩ := bindE h
            simp -implicitDefEqProofs only [go_sem, seval, f1, f3, f4, f6, f7, f36, f38, f40, f41, f43, f44, hq]
            refine callV_eq (portolanref04_has_ok γ _  f45) rfl rfl ?_
            simp -implicitDefEqProofs only [go_sem, seval, f1, f3, f4, f6, f7, f36, f38, f40, f41, f43, f44, hq]
            obtain rfl := sI h
            refine X_ret ?_
            simp -implicitDefEqProofs only [go_sem, seval, f1, f3, f4, f6, f7, f36, f38, f40, f41, f43, f44, hq]
            exact Rt.mv0 (BaseR.refl hob) (by simp) (vS)
           ·rw [if_pos f44] at h
            simp -implicitDefEqProofs only [go_sem, seval, f1, f3, f4, f6, f7, f36, f38, f40, f41, f43, f44, hq]
            obtain rfl := sI h
            refine X_ret ?_
            simp -implicitDefEqProofs only [go_sem, seval, f1, f3, f4, f6, f7, f36, f38, f40, f41, f43, f44, hq]
            exact Rt.mv0 (BaseR.refl hob) (by simp) (vS)
         ·rw [if_pos f41] at h
          cases f46 : ((List.length a0.Args : Int) == 0)
          ·rw [if_neg (nF f46)] at h
           obtain ⟨x19, f47, h⟩ := bindE h
           simp -implicitDefEqProofs only [go_sem, seval, f1, f3, f4, f6, f7, f36, f38, f40, f41, f46, hq]
           refine callV_eq (portolanref04_has_ok γ _  f47) rfl rfl ?_
           simp -implicitDefEqProofs only [go_sem, seval, f1, f3, f4, f6, f7, f36, f38, f40, f41, f46, hq]
           obtain rfl := sI h
           refine X_ret ?_
           simp -implicitDefEqProofs only [go_sem, seval, f1, f3, f4, f6, f7, f36, f38, f40, f41, f46, hq]
           exact Rt.mv0 (BaseR.refl hob) (by simp) (vS)
          ·rw [if_pos f46] at h
           simp -implicitDefEqProofs only [go_sem, seval, f1, f3, f4, f6, f7, f36, f38, f40, f41, f46, hq]
           obtain rfl := sI h
           refine X_ret ?_
           simp -implicitDefEqProofs only [go_sem, seval, f1, f3, f4, f6, f7, f36, f38, f40, f41, f46, hq]
           exact Rt.mv0 (BaseR.refl hob) (by simp) (vS)
       ·rw [if_pos f38] at h
        cases f48 : (a0.M == 0)
        ·rw [if_neg (nF f48)] at h
         obtain ⟨x20, f49, h⟩ := bindE h
         simp -implicitDefEqProofs only [go_sem, seval, f1, f3, f4, f6, f7, f36, f38, f48, hq]
         refine callV_eq (portolanref04_has_ok γ _  f49) rfl rfl ?_
         cases f50 : x20
         ·rw [if_neg (nF f50)] at h
          simp -implicitDefEqProofs only [go_sem, seval, f1, f3, f4, f6, f7, f36, f38, f48, f50, hq]
          obtain rfl := sI h
          refine X_ret ?_
          simp -implicitDefEqProofs only [go_sem, seval, f1, f3, f4, f6, f7, f36, f38, f48, f50, hq]
          exact Rt.mv0 (BaseR.refl hob) (by simp) (vS)
         ·rw [if_pos f50] at h
          cases f51 : ((List.length a0.Args : Int) == 0)
          ·rw [if_neg (nF f51)] at h
           obtain ⟨x21, f52, h⟩ := bindE h
           simp -implicitDefEqProofs only [go_sem, seval, f1, f3, f4, f6, f7, f36, f38, f48, f50, f51, hq]
           refine callV_eq (portolanref04_has_ok γ _  f52) rfl rfl ?_
           simp -implicitDefEqProofs only [go_sem, seval, f1, f3, f4, f6, f7, f36, f38, f48, f50, f51, hq]
           obtain rfl := sI h
           refine X_ret ?_
           simp -implicitDefEqProofs only [go_sem, seval, f1, f3, f4, f6, f7, f36, f38, f48, f50, f51, hq]
           exact Rt.mv0 (BaseR.refl hob) (by simp) (vS)
          ·rw [if_pos f51] at h
           simp -implicitDefEqProofs only [go_sem, seval, f1, f3, f4, f6, f7, f36, f38, f48, f50, f51, hq]
           obtain rfl := sI h
           refine X_ret ?_
           simp -implicitDefEqProofs only [go_sem, seval, f1, f3, f4, f6, f7, f36, f38, f48, f50, f51, hq]
           exact Rt.mv0 (BaseR.refl hob) (by simp) (vS)
        ·rw [if_pos f48] at h
         cases f53 : ((List.length a0.Args : Int) == 0)
         ·rw [if_neg (nF f53)] at h
          obtain ⟨x22, f54, h⟩ := bindE h
          simp -implicitDefEqProofs only [go_sem, seval, f1, f3, f4, f6, f7, f36, f38, f48, f53, hq]
          refine callV_eq (portolanref04_has_ok γ _  f54) rfl rfl ?_
          simp -implicitDefEqProofs only [go_sem, seval, f1, f3, f4, f6, f7, f36, f38, f48, f53, hq]
          obtain rfl := sI h
          refine X_ret ?_
          simp -implicitDefEqProofs only [go_sem, seval, f1, f3, f4, f6, f7, f36, f38, f48, f53, hq]
          exact Rt.mv0 (BaseR.refl hob) (by simp) (vS)
         ·rw [if_pos f53] at h
          simp -implicitDefEqProofs only [go_sem, seval, f1, f3, f4, f6, f7, f36, f38, f48, f53, hq]
          obtain rfl := sI h
          refine X_ret ?_
          simp -implicitDefEqProofs only [go_sem, seval, f1, f3, f4, f6, f7, f36, f38, f48, f53, hq]
          exact Rt.mv0 (BaseR.refl hob) (by simp) (vS)
      ·rw [if_pos f36] at h
       cases f55 : (a0.M == 0)
       ·rw [if_neg (nF f55)] at h
        obtain ⟨x23, f56, h⟩ := bindE h
        simp -implicitDefEqProofs only [go_sem, seval, f1, f3, f4, f6, f7, f36, f55, hq]
        refine callV_eq (portolanref04_has_ok γ _  f56) rfl rfl ?_
        cases f57 : x23
        ·rw [if_neg (nF f57)] at h
         simp -implicitDefEqProofs only [go_sem, seval, f1, f3, f4, f6, f7, f36, f55, f57, hq]
         obtain rfl := sI h
         refine X_ret ?_
         simp -implicitDefEqProofs only [go_sem, seval, f1, f3, f4, f6, f7, f36, f55, f57, hq]
         exact Rt.mv0 (BaseR.refl hob) (by simp) (vS)
        ·rw [if_pos f57] at h
         cases f58 : ((List.length a0.Args : Int) == 0)
         ·rw [if_neg (nF f58)] at h
          obtain ⟨x24, f59, h⟩ := bindE h
          simp -implicitDefEqProofs only [go_sem, seval, f1, f3, f4, f6, f7, f36, f55, f57, f58, hq]
          refine callV_eq (portolanref04_has_ok γ _  f59) rfl rfl ?_
          simp -implicitDefEqProofs only [go_sem, seval, f1, f3, f4, f6, f7, f36, f55, f57, f58, hq]
          obtain rfl := sI h
          refine X_ret ?_
          simp -implicitDefEqProofs only [go_sem, seval, f1, f3, f4, f6, f7, f36, f55, f57, f58, hq]
          exact Rt.mv0 (BaseR.refl hob) (by simp) (vS)
         ·rw [if_pos f58] at h
          simp -implicitDefEqProofs only [go_sem, seval, f1, f3, f4, f6, f7, f36, f55, f57, f58, hq]
          obtain rfl := sI h
          refine X_ret ?_
          simp -implicitDefEqProofs only [go_sem, seval, f1, f3, f4, f6, f7, f36, f55, f57, f58, hq]
          exact Rt.mv0 (BaseR.refl hob) (by simp) (vS)
       ·rw [if_pos f55] at h
        cases f60 : ((List.length a0.Args : Int) == 0)
        ·rw [if_neg (nF f60)] at h
         obtain ⟨x25, f61, h⟩ := bindE h
         simp -implicitDefEqProofs only [go_sem, seval, f1, f3, f4, f6, f7, f36, f55, f60, hq]
         refine callV_eq (portolanref04_has_ok γ _  f61) rfl rfl ?_
         simp -implicitDefEqProofs only [go_sem, seval, f1, f3, f4, f6, f7, f36, f55, f60, hq]
         obtain rfl := sI h
         refine X_ret ?_
         simp -implicitDefEqProofs only [go_sem, seval, f1, f3, f4, f6, f7, f36, f55, f60, hq]
         exact Rt.mv0 (BaseR.refl hob) (by simp) (vS)
        ·rw [if_pos f60] at h
         simp -implicitDefEqProofs only [go_sem, seval, f1, f3, f4, f6, f7, f36, f55, f60, hq]
         obtain rfl := sI h
         refine X_ret ?_
         simp -implicitDefEqProofs only [go_sem, seval, f1, f3, f4, f6, f7, f36, f55, f60, hq]
         exact Rt.mv0 (BaseR.refl hob) (by simp) (vS)
   ·rw [if_pos f4] at h
    cases f62 : (a0.B == 0)
    ·rw [if_neg (nF f62)] at h
     obtain ⟨x26, f63, h⟩ := bindE h
     simp -implicitDefEqProofs only [go_sem, seval, f1, f3, f4, f62, hq]
     refine callV_eq (portolanref04_has_ok γ _  f63) rfl rfl ?_
     cases f64 : x26
     ·rw [if_neg (nF f64)] at h
      simp -implicitDefEqProofs only [go_sem, seval, f1, f3, f4, f62, f64, hq]
      obtain rfl := sI h
      refine X_ret ?_
      simp -implicitDefEqProofs only [go_sem, seval, f1, f3, f4, f62, f64, hq]
      exact Rt.mv0 (BaseR.refl hob) (by simp) (vS)
     ·rw [if_pos f64] at h
      cases f65 : (a0.N == 0)
      ·rw [if_neg (nF f65)] at h
       obtain ⟨x27, f66, h⟩ := bindE h
       simp -implicitDefEqProofs only [go_sem, seval, f1, f3, f4, f62, f64, f65, hq]
       refine callV_eq (portolanref04_has_ok γ _  f66) rfl rfl ?_
       cases f67 : x27
       ·rw [if_neg (nF f67)] at h
        obtain ⟨x28, f68, h⟩ := bindE h
        simp -implicitDefEqProofs only [go_sem, seval, f1, f3, f4, f62, f64, f65, f67, hq]
        refine callV_eq (portolanref04_has_ok γ _  f68) rfl rfl ?_
        cases f69 : x28
        ·rw [if_neg (nF f69)] at h
         simp -implicitDefEqProofs only [go_sem, seval, f1, f3, f4, f62, f64, f65, f67, f69, hq]
         obtain rfl := sI h
         refine X_ret ?_
         simp -implicitDefEqProofs only [go_sem, seval, f1, f3, f4, f62, f64, f65, f67, f69, hq]
         exact Rt.mv0 (BaseR.refl hob) (by simp) (vS)
        ·rw [if_pos f69] at h
         cases f70 : (a0.M == 0)
         ·rw [if_neg (nF f70)] at h
          obtain ⟨x29, f71, h⟩ := bindE h
          simp -implicitDefEqProofs only [go_sem, seval, f1, f3, f4, f62, f64, f65, f67, f69, f70, hq]
          refine callV_eq (portolanref04_has_ok γ _  f71) rfl rfl ?_
          cases f72 : x29
          ·rw [if_neg (nF f72)] at h
           simp -implicitDefEqProofs only [go_sem, seval, f1, f3, f4, f62, f64, f65, f67, f69, f70, f72, hq]
           obtain rfl := sI h
           refine X_ret ?_
           simp -implicitDefEqProofs only [go_sem, seval, f1, f3, f4, f62, f64, f65, f67, f69, f70, f72, hq]
           exact Rt.mv0 (BaseR.refl hob) (by simp) (vS)
          ·rw [if_pos f72] at h
           cases f73 : ((List.length a0.Args : Int) == 0)
           ·rw [if_neg (nF f73)] at h
            obtain ⟨x30, f74, h⟩ := bindE h
            simp -implicitDefEqProofs only [go_sem, seval, f1, f3, f4, f62, f64, f65, f67, f69, f70, f72, f73, hq]
            refine callV_eq (portolanref04_has_ok γ _  f74) rfl rfl ?_
            simp -implicitDefEqProofs only [go_sem, seval, f1, f3, f4, f62, f64, f65, f67, f69, f70, f72, f73, hq]
            obtain rfl := sI h
            refine X_ret ?_
            simp -implicitDefEqProofs only [go_sem, seval, f1, f3, f4, f62, f64, f65, f67, f69, f70, f72, f73, hq]
            exact Rt.mv0 (BaseR.refl hob) (by simp) (vS)
           ·rw [if_pos f73] at h
            simp -implicitDefEqProofs only [go_sem, seval, f1, f3, f4, f62, f64, f65, f67, f69, f70, f72, f73, hq]
            obtain rfl := sI h
            refine X_ret ?_
            simp -implicitDefEqProofs only [go_sem, seval, f1, f3, f4, f62, f64, f65, f67, f69, f70, f72, f73, hq]
            exact Rt.mv0 (BaseR.refl hob) (by simp) (vS)
         ·rw [if_pos f70] at h
          cases f75 : ((List.length a0.Args : Int) == 0)
          ·rw [if_neg (nF f75)] at h
           obtain ⟨x31, f76, h⟩ := bindE h
           simp -implicitDefEqProofs only [go_sem, seval, f1, f3, f4, f62, f64, f65, f67, f69, f70, f75, hq]
           refine callV_eq (portolanref04_has_ok γ _  f76) rfl rfl ?_
           simp -implicitDefEqProofs only [go_sem, seval, f1, f3, f4, f62, f64, f65, f67, f69, f70, f75, hq]
           obtain rfl := sI h
           refine X_ret ?_
           simp -implicitDefEqProofs only [go_sem, seval, f1, f3, f4, f62, f64, f65, f67, f69, f70, f75, hq]
           exact Rt.mv0 (BaseR.refl hob) (by simp) (vS)
          ·rw [if_pos f75] at h
           simp -implicitDefEqProofs only [go_sem, seval, f1, f3, f4, f62, f64, f65, f67, f69, f70, f75, hq]
           obtain rfl := sI h
           refine X_ret ?_
           simp -implicitDefEqProofs only [go_sem, seval, f1, f3, f4, f62, f64, f65, f67, f69, f70, f75, hq]
           exact Rt.mv0 (BaseR.refl hob) (by simp) (vS)
       ·rw [if_pos f67] at h
        cases f77 : (a0.M == 0)
        ·rw [if_neg (nF f77)] at h
         obtain ⟨x32, f78, h⟩ := bindE h
         simp -implicitDefEqProofs only [go_sem, seval, f1, f3, f4, f62, f64, f65, f67, f77, hq]
         refine callV_eq (portolanref04_has_ok γ _  f78) rfl rfl ?_
         cases f79 : x32
         ·rw [if_neg (nF f79)] at h
          simp -implicitDefEqProofs only [go_sem, seval, f1, f3, f4, f62, f64, f65, f67, f77, f79, hq]
          obtain rfl := sI h
          refine X_ret ?_
          simp -implicitDefEqProofs only [go_sem, seval, f1, f3, f4, f62, f64, f65, f67, f77, f79, hq]
          exact Rt.mv0 (BaseR.refl hob) (by simp) (vS)
         ·rw [if_pos f79] at h
          cases f80 : ((List.length a0.Args : Int) == 0)
          ·rw [if_neg (nF f80)] at h
           obtain ⟨x33, f81, h⟩ := bindE h
           simp -implicitDefEqProofs only [go_sem, seval, f1, f3, f4, f62, f64, f65, f67, f77, f79, f80, hq]
           refine callV_eq (portolanref04_has_ok γ _  f81) rfl rfl ?_
           simp -implicitDefEqProofs only [go_sem, seval, f1, f3, f4, f62, f64, f65, f67, f77, f79, f80, hq]
           obtain rfl := sI h
           refine X_ret ?_
           simp -implicitDefEqProofs only [go_sem, seval, f1, f3, f4, f62, f64, f65, f67, f77, f79, f80, hq]
           exact Rt.mv0 (BaseR.refl hob) (by simp) (vS)
          ·rw [if_pos f80] at h
           simp -implicitDefEqProofs only [go_sem, seval, f1, f3, f4, f62, f64, f65, f67, f77, f79, f80, hq]
           obtain rfl := sI h
           refine X_ret ?_
           simp -implicitDefEqProofs only [go_sem, seval, f1, f3, f4, f62, f64, f65, f67, f77, f79, f80, hq]
           exact Rt.mv0 (BaseR.refl hob) (by simp) (vS)
        ·rw [if_pos f77] at h
         cases f82 : ((List.length a0.Args : Int) == 0)
         ·rw [if_neg (nF f82)] at h
          obtain ⟨x34, f83, h⟩ := bindE h
          simp -implicitDefEqProofs only [go_sem, seval, f1, f3, f4, f62, f64, f65, f67, f77, f82, hq]
          refine callV_eq (portolanref04_has_ok γ _  f83) rfl rfl ?_
          simp -implicitDefEqProofs only [go_sem, seval, f1, f3, f4, f62, f64, f65, f67, f77, f82, hq]
          obtain rfl := sI h
          refine X_ret ?_
          simp -implicitDefEqProofs only [go_sem, seval, f1, f3, f4, f62, f64, f65, f67, f77, f82, hq]
          exact Rt.mv0 (BaseR.refl hob) (by simp) (vS)
         ·rw [if_pos f82] at h
          simp -implicitDefEqProofs only [go_sem, seval, f1, f3, f4, f62, f64, f65, f67, f77, f82, hq]
          obtain rfl := sI h
          refine X_ret ?_
          simp -implicitDefEqProofs only [go_sem, seval, f1, f3, f4, f62, f64, f65, f67, f77, f82, hq]
          exact Rt.mv0 (BaseR.refl hob) (by simp) (vS)
      ·rw [if_pos f65] at h
       cases f84 : (a0.M == 0)
       ·rw [if_neg (nF f84)] at h
        obtain ⟨x35, f85, h⟩ := bindE h
        simp -implicitDefEqProofs only [go_sem, seval, f1, f3, f4, f62, f64, f65, f84, hq]
        refine callV_eq (portolanref04_has_ok γ _  f85) rfl rfl ?_
        cases f86 : x35
        ·rw [if_neg (nF f86)] at h
         simp -implicitDefEqProofs only [go_sem, seval, f1, f3, f4, f62, f64, f65, f84, f86, hq]
         obtain rfl := sI h
         refine X_ret ?_
         simp -implicitDefEqProofs only [go_sem, seval, f1, f3, f4, f62, f64, f65, f84, f86, hq]
         exact Rt.mv0 (BaseR.refl hob) (by simp) (vS)
        ·rw [if_pos f86] at h
         cases f87 : ((List.length a0.Args : Int) == 0)
         ·rw [if_neg (nF f87)] at h
          obtain ⟨x36, f88, h⟩ := bindE h
          simp -implicitDefEqProofs only [go_sem, seval, f1, f3, f4, f62, f64, f65, f84, f86, f87, hq]
          refine callV_eq (portolanref04_has_ok γ _  f88) rfl rfl ?_
          simp -implicitDefEqProofs only [go_sem, seval, f1, f3, f4, f62, f64, f65, f84, f86, f87, hq]
          obtain rfl := sI h
          refine X_ret ?_
          simp -implicitDefEqProofs only [go_sem, seval, f1, f3, f4, f62, f64, f65, f84, f86, f87, hq]
          exact Rt.mv0 (BaseR.refl hob) (by simp) (vS)
         ·rw [if_pos f87] at h
          simp -implicitDefEqProofs only [go_sem, seval, f1, f3, f4, f62, f64, f65, f84, f86, f87, hq]
          obtain rfl := sI h
          refine X_ret ?_
          simp -implicitDefEqProofs only [go_sem, seval, f1, f3, f4, f62, f64, f65, f84, f86, f87, hq]
          exact Rt.mv0 (BaseR.refl hob) (by simp) (vS)
       ·rw [if_pos f84] at h
        cases f89 : ((List.length a0.Args : Int) == 0)
        ·rw [if_neg (nF f89)] at h
         obtain ⟨x37, f90, h⟩ := bindE h
         simp -implicitDefEqProofs only [go_sem, seval, f1, f3, f4, f62, f64, f65, f84, f89, hq]
         refine callV_eq (portolanref04_has_ok γ _  f90) rfl rfl ?_
         simp -implicitDefEqProofs only [go_sem, seval, f1, f3, f4, f62, f64, f65, f84, f89, hq]
         obtain rfl := sI h
         refine X_ret ?_
         simp -implicitDefEqProofs only [go_sem, seval, f1, f3, f4, f62, f64, f65, f84, f89, hq]
         exact Rt.mv0 (BaseR.refl hob) (by simp) (vS)
        ·rw [if_pos f89] at h
         simp -implicitDefEqProofs only [go_sem, seval, f1, f3, f4, f62, f64, f65, f84, f89, hq]
         obtain rfl := sI h
         refine X_ret ?_
         simp -implicitDefEqProofs only [go_sem, seval, f1, f3, f4, f62, f64, f65, f84, f89, hq]
         exact Rt.mv0 (BaseR.refl hob) (by simp) (vS)
    ·rw [if_pos f62] at h
     cases f91 : (a0.N == 0)
     ·rw [if_neg (nF f91)] at h
      obtain ⟨x38, f92, h⟩ := bindE h
      simp -implicitDefEqProofs only [go_sem, seval, f1, f3, f4, f62, f91, hq]
      refine callV_eq (portolanref04_has_ok γ _  f92) rfl rfl ?_
      cases f93 : x38
      ·rw [if_neg (nF f93)] at h
       obtain ⟨x39, f94, h⟩ := bindE h
       simp -implicitDefEqProofs only [go_sem, seval, f1, f3, f4, f62, f91, f93, hq]
       refine callV_eq (portolanref04_has_ok γ _  f94) rfl rfl ?_
       cases f95 : x39
       ·rw [if_neg (nF f95)] at h
        simp -implicitDefEqProofs only [go_sem, seval, f1, f3, f4, f62, f91, f93, f95, hq]
        obtain rfl := sI h
        refine X_ret ?_
        simp -implicitDefEqProofs only [go_sem, seval, f1, f3, f4, f62, f91, f93, f95, hq]
        exact Rt.mv0 (BaseR.refl hob) (by simp) (vS)
       ·rw [if_pos f95] at h
        cases f96 : (a0.M == 0)
        ·rw [if_neg (nF f96)] at h
         obtain ⟨x40, f97, h⟩ := bindE h
         simp -implicitDefEqProofs only [go_sem, seval, f1, f3, f4, f62, f91, f93, f95, f96, hq]
         refine callV_eq (portolanref04_has_ok γ _  f97) rfl rfl ?_
         cases f98 : x40
         ·rw [if_neg (nF f98)] at h
          simp -implicitDefEqProofs only [go_sem, seval, f1, f3, f4, f62, f91, f93, f95, f96, f98, hq]
          obtain rfl := sI h
          refine X_ret ?_
          simp -implicitDefEqProofs only [go_sem, seval, f1, f3, f4, f62, f91, f93, f95, f96, f98, hq]
          exact Rt.mv0 (BaseR.refl hob) (by simp) (vS)
         ·rw [if_pos f98] at h
          cases f99 : ((List.length a0.Args : Int) == 0)
          ·rw [if_neg (nF f99)] at h
           obtain ⟨x41, f100, h⟩ := bindE h
           simp -implicitDefEqProofs only [go_sem, seval, f1, f3, f4, f62, f91, f93, f95, f96, f98, f99, hq]
           refine callV_eq (portolanref04_has_ok γ _  f100) rfl rfl ?_
           simp -implicitDefEqProofs only [go_sem, seval, f1, f3, f4, f62, f91, f93, f95, f96, f98, f99, hq]
           obtain rfl := sI h
           refine X_ret ?_
           simp -implicitDefEqProofs only [go_sem, seval, f1, f3, f4, f62, f91, f93, f95, f96, f98, f99, hq]
           exact Rt.mv0 (BaseR.refl hob) (by simp) (vS)
          ·rw [if_pos f99] at h
           simp -implicitDefEqProofs only [go_sem, seval, f1, f3, f4, f62, f91, f93, f95, f96, f98, f99, hq]
           obtain rfl := sI h
           refine X_ret ?_
           simp -implicitDefEqProofs only [go_sem, seval, f1, f3, f4, f62, f91, f93, f95, f96, f98, f99, hq]
           exact Rt.mv0 (BaseR.refl hob) (by simp) (vS)
        ·rw [if_pos f96] at h
         cases f101 : ((List.length a0.Args : Int) == 0)
         ·rw [if_neg (nF f101)] at h
          obtain ⟨x42, f102, h⟩ := bindE h
          simp -implicitDefEqProofs only [go_sem, seval, f1, f3, f4, f62, f91, f93, f95, f96, f101, hq]
          refine callV_eq (portolanref04_has_ok γ _  f102) rfl rfl ?_
          simp -implicitDefEqProofs only [go_sem, seval, f1, f3, f4, f62, f91, f93, f95, f96, f101, hq]
          obtain rfl := sI h
          refine X_ret ?_
          simp -implicitDefEqProofs only [go_sem, seval, f1, f3, f4, f62, f91, f93, f95, f96, f101, hq]
          exact Rt.mv0 (BaseR.refl hob) (by simp) (vS)
         ·rw [if_pos f101] at h
          simp -implicitDefEqProofs only [go_sem, seval, f1, f3, f4, f62, f91, f93, f95, f96, f101, hq]
          obtain rfl := sI h
          refine X_ret ?_
          simp -implicitDefEqProofs only [go_sem, seval, f1, f3, f4, f62, f91, f93, f95, f96, f101, hq]
          exact Rt.mv0 (BaseR.refl hob) (by simp) (vS)
      ·rw [if_pos f93] at h
       cases f103 : (a0.M == 0)
       ·rw [if_neg (nF f103)] at h
        obtain ⟨x43, f104, h⟩ := bindE h
        simp -implicitDefEqProofs only [go_sem, seval, f1, f3, f4, f62, f91, f93, f103, hq]
        refine callV_eq (portolanref04_has_ok γ _  f104) rfl rfl ?_
        cases f105 : x43
        ·rw [if_neg (nF f105)] at h
         simp -implicitDefEqProofs only [go_sem, seval, f1, f3, f4, f62, f91, f93, f103, f105, hq]
         obtain rfl := sI h
         refine X_ret ?_
         simp -implicitDefEqProofs only [go_sem, seval, f1, f3, f4, f62, f91, f93, f103, f105, hq]
         exact Rt.mv0 (BaseR.refl hob) (by simp) (vS)
        ·rw [if_pos f105] at h
         cases f106 : ((List.length a0.Args : Int) == 0)
         ·rw [if_neg (nF f106)] at h
          obtain ⟨x44, f107, h⟩ := bindE h
          simp -implicitDefEqProofs only [go_sem, seval, f1, f3, f4, f62, f91, f93, f103, f105, f106, hq]
          refine callV_eq (portolanref04_has_ok γ _  f107) rfl rfl ?_
          simp -implicitDefEqProofs only [go_sem, seval, f1, f3, f4, f62, f91, f93, f103, f105, f106, hq]
          obtain rfl := sI h
          refine X_ret ?_
          simp -implicitDefEqProofs only [go_sem, seval, f1, f3, f4, f62, f91, f93, f103, f105, f106, hq]
          exact Rt.mv0 (BaseR.refl hob) (by simp) (vS)
         ·rw [if_pos f106] at h
          simp -implicitDefEqProofs only [go_sem, seval, f1, f3, f4, f62, f91, f93, f103, f105, f106, hq]
          obtain rfl := sI h
          refine X_ret ?_
          simp -implicitDefEqProofs only [go_sem, seval, f1, f3, f4, f62, f91, f93, f103, f105, f106, hq]
          exact Rt.mv0 (BaseR.refl hob) (by simp) (vS)
       ·rw [if_pos f103] at h
        cases f108 : ((List.length a0.Args : Int) == 0)
        ·rw [if_neg (nF f108)] at h
         obtain ⟨x45, f109, h⟩ := bindE h
         simp -implicitDefEqProofs only [go_sem, seval, f1, f3, f4, f62, f91, f93, f103, f108, hq]
         refine callV_eq (portolanref04_has_ok γ _  f109) rfl rfl ?_
         simp -implicitDefEqProofs only [go_sem, seval, f1, f3, f4, f62, f91, f93, f103, f108, hq]
         obtain rfl := sI h
         refine X_ret ?_
         simp -implicitDefEqProofs only [go_sem, seval, f1, f3, f4, f62, f91, f93, f103, f108, hq]
         exact Rt.mv0 (BaseR.refl hob) (by simp) (vS)
        ·rw [if_pos f108] at h
         simp -implicitDefEqProofs only [go_sem, seval, f1, f3, f4, f62, f91, f93, f103, f108, hq]
         obtain rfl := sI h
         refine X_ret ?_
         simp -implicitDefEqProofs only [go_sem, seval, f1, f3, f4, f62, f91, f93, f103, f108, hq]
         exact Rt.mv0 (BaseR.refl hob) (by simp) (vS)
     ·rw [if_pos f91] at h
      cases f110 : (a0.M == 0)
      ·rw [if_neg (nF f110)] at h
       obtain ⟨x46, f111, h⟩ := bindE h
       simp -implicitDefEqProofs only [go_sem, seval, f1, f3, f4, f62, f91, f110, hq]
       refine callV_eq (portolanref04_has_ok γ _  f111) rfl rfl ?_
       cases f112 : x46
       ·rw [if_neg (nF f112)] at h
        simp -implicitDefEqProofs only [go_sem, seval, f1, f3, f4, f62, f91, f110, f112, hq]
        obtain rfl := sI h
        refine X_ret ?_
        simp -implicitDefEqProofs only [go_sem, seval, f1, f3, f4, f62, f91, f110, f112, hq]
        exact Rt.mv0 (BaseR.refl hob) (by simp) (vS)
       ·rw [if_pos f112] at h
        cases f113 : ((List.length a0.Args : Int) == 0)
        ·rw [if_neg (nF f113)] at h
         obtain ⟨x47, f114, h⟩ := bindE h
         simp -implicitDefEqProofs only [go_sem, seval, f1, f3, f4, f62, f91, f110, f112, f113, hq]
         refine callV_eq (portolanref04_has_ok γ _  f114) rfl rfl ?_
         simp -implicitDefEqProofs only [go_sem, seval, f1, f3, f4, f62, f91, f110, f112, f113, hq]
         obtain rfl := sI h
         refine X_ret ?_
         simp -implicitDefEqProofs only [go_sem, seval, f1, f3, f4, f62, f91, f110, f112, f113, hq]
         exact Rt.mv0 (BaseR.refl hob) (by simp) (vS)
        ·rw [if_pos f113] at h
         simp -implicitDefEqProofs only [go_sem, seval, f1, f3, f4, f62, f91, f110, f112, f113, hq]
         obtain rfl := sI h
         refine X_ret ?_
         simp -implicitDefEqProofs only [go_sem, seval, f1, f3, f4, f62, f91, f110, f112, f113, hq]
         exact Rt.mv0 (BaseR.refl hob) (by simp) (vS)
      ·rw [if_pos f110] at h
       cases f115 : ((List.length a0.Args : Int) == 0)
       ·rw [if_neg (nF f115)] at h
        obtain ⟨x48, f116, h⟩ := bindE h
        simp -implicitDefEqProofs only [go_sem, seval, f1, f3, f4, f62, f91, f110, f115, hq]
        refine callV_eq (portolanref04_has_ok γ _  f116) rfl rfl ?_
        simp -implicitDefEqProofs only [go_sem, seval, f1, f3, f4, f62, f91, f110, f115, hq]
        obtain rfl := sI h
        refine X_ret ?_
        simp -implicitDefEqProofs only [go_sem, seval, f1, f3, f4, f62, f91, f110, f115, hq]
        exact Rt.mv0 (BaseR.refl hob) (by simp) (vS)
       ·rw [if_pos f115] at h
        simp -implicitDefEqProofs only [go_sem, seval, f1, f3, f4, f62, f91, f110, f115, hq]
        obtain rfl := sI h
        refine X_ret ?_
        simp -implicitDefEqProofs only [go_sem, seval, f1, f3, f4, f62, f91, f110, f115, hq]
        exact Rt.mv0 (BaseR.refl hob) (by simp) (vS)
 ·rw [if_pos f1] at h
  cases f117 : (a0.A == 0)
  ·rw [if_neg (nF f117)] at h
   obtain ⟨x49, f118, h⟩ := bindE h
   simp -implicitDefEqProofs only [go_sem, seval, f1, f117, hq]
   refine callV_eq (portolanref04_has_ok γ _  f118) rfl rfl ?_
   cases f119 : x49
   ·rw [if_neg (nF f119)] at h
    simp -implicitDefEqProofs only [go_sem, seval, f1, f117, f119, hq]
    obtain rfl := sI h
    refine X_ret ?_
    simp -implicitDefEqProofs only [go_sem, seval, f1, f117, f119, hq]
    exact Rt.mv0 (BaseR.refl hob) (by simp) (vS)
   ·rw [if_pos f119] at h
    cases f120 : (a0.B == 0)
    ·rw [if_neg (nF f120)] at h
     obtain ⟨x50, f121, h⟩ := bindE h
     simp -implicitDefEqProofs only [go_sem, seval, f1, f117, f119, f120, hq]
     refine callV_eq (portolanref04_has_ok γ _  f121) rfl rfl ?_
     cases f122 : x50
     ·rw [if_neg (nF f122)] at h
      simp -implicitDefEqProofs only [go_sem, seval, f1, f117, f119, f120, f122, hq]
      obtain rfl := sI h
      refine X_ret ?_
      simp -implicitDefEqProofs only [go_sem, seval, f1, f117, f119, f120, f122, hq]
      exact Rt.mv0 (BaseR.refl hob) (by simp) (vS)
     ·rw [if_pos f122] at h
      cases f123 : (a0.N == 0)
      ·rw [if_neg (nF f123)] at h
       obtain ⟨x51, f124, h⟩ := bindE h
       simp -implicitDefEqProofs only [go_sem, seval, f1, f117, f119, f120, f122, f123, hq]
       refine callV_eq (portolanref04_has_ok γ _  f124) rfl rfl ?_
       cases f125 : x51
       ·rw [if_neg (nF f125)] at h
        obtain ⟨x52, f126, h⟩ := bindE h
        simp -implicitDefEqProofs only [go_sem, seval, f1, f117, f119, f120, f122, f123, f125, hq]
        refine callV_eq (portolanref04_has_ok γ _  f126) rfl rfl ?_
        cases f127 : x52
        ·rw [if_neg (nF f127)] at h
         simp -implicitDefEqProofs only [go_sem, seval, f1, f117, f119, f120, f122, f123, f125, f127, hq]
         obtain rfl := sI h
         refine X_ret ?_
         simp -implicitDefEqProofs only [go_sem, seval, f1, f117, f119, f120, f122, f123, f125, f127, hq]
         exact Rt.mv0 (BaseR.refl hob) (by simp) (vS)
        ·rw [if_pos f127] at h
         cases f128 : (a0.M == 0)
         ·rw [if_neg (nF f128)] at h
          obtain ⟨x53, f129, h⟩ := bindE h
          simp -implicitDefEqProofs only [go_sem, seval, f1, f117, f119, f120, f122, f123, f125, f127, f128, hq]
          refine callV_eq (portolanref04_has_ok γ _  f129) rfl rfl ?_
          cases f130 : x53
          ·rw [if_neg (nF f130)] at h
           simp -implicitDefEqProofs only [go_sem, seval, f1, f117, f119, f120, f122, f123, f125, f127, f128, f130, hq]
           obtain rfl := sI h
           refine X_ret ?_
           simp -implicitDefEqProofs only [go_sem, seval, f1, f117, f119, f120, f122, f123, f125, f127, f128, f130, hq]
           exact Rt.mv0 (BaseR.refl hob) (by simp) (vS)
          ·rw [if_pos f130] at h
           cases f131 : ((List.length a0.Args : Int) == 0)
           ·rw [if_neg (nF f131)] at h
            obtain ⟨x54, f132, h⟩ := bindE h
            simp -implicitDefEqProofs only [go_sem, seval, f1, f117, f119, f120, f122, f123, f125, f127, f128, f130, f131, hq]
            refine callV_eq (portolanref04_has_ok γ _  f132) rfl rfl ?_
            simp -implicitDefEqProofs only [go_sem, seval, f1, f117, f119, f120, f122, f123, f125, f127, f128, f130, f131, hq]
            obtain rfl := sI h
            refine X_ret ?_
            simp -implicitDefEqProofs only [go_sem, seval, f1, f117, f119, f120, f122, f123, f125, f127, f128, f130, f131, hq]
            exact Rt.mv0 (BaseR.refl hob) (by simp) (vS)
           ·rw [if_pos f131] at h
            simp -implicitDefEqProofs only [go_sem, seval, f1, f117, f119, f120, f122, f123, f125, f127, f128, f130, f131, hq]
            obtain rfl := sI h
            refine X_ret ?_
            simp -implicitDefEqProofs only [go_sem, seval, f1, f117, f119, f120, f122, f123, f125, f127, f128, f130, f131, hq]
            exact Rt.mv0 (BaseR.refl hob) (by simp) (vS)
         ·rw [if_pos f128] at h
          cases f133 : ((List.length a0.Args : Int) == 0)
          ·rw [if_neg (nF f133)] at h
           obtain ⟨x55, f134, h⟩ := bindE h
           simp -implicitDefEqProofs only [go_sem, seval, f1, f117, f119, f120, f122, f123, f125, f127, f128, f133, hq]
           refine callV_eq (portolanref04_has_ok γ _  f134) rfl rfl ?_
           simp -implicitDefEqProofs only [go_sem, seval, f1, f117, f119, f120, f122, f123, f125, f127, f128, f133, hq]
           obtain rfl := sI h
           refine X_ret ?_
           simp -implicitDefEqProofs only [go_sem, seval, f1, f117, f119, f120, f122, f123, f125, f127, f128, f133, hq]
           exact Rt.mv0 (BaseR.refl hob) (by simp) (vS)
          ·rw [if_pos f133] at h
           simp -implicitDefEqProofs only [go_sem, seval, f1, f117, f119, f120, f122, f123, f125, f127, f128, f133, hq]
           obtain rfl := sI h
           refine X_ret ?_
           simp -implicitDefEqProofs only [go_sem, seval, f1, f117, f119, f120, f122, f123, f125, f127, f128, f133, hq]
           exact Rt.mv0 (BaseR.refl hob) (by simp) (vS)
       ·rw [if_pos f125] at h
        cases f135 : (a0.M == 0)
        ·rw [if_neg (nF f135)] at h
         obtain ⟨x56, f136, h⟩ := bindE h
         simp -implicitDefEqProofs only [go_sem, seval, f1, f117, f119, f120, f122, f123, f125, f135, hq]
         refine callV_eq (portolanref04_has_ok γ _  f136) rfl rfl ?_
         cases f137 : x56
         ·rw [if_neg (nF f137)] at h
          simp -implicitDefEqProofs only [go_sem, seval, f1, f117, f119, f120, f122, f123, f125, f135, f137, hq]
          obtain rfl := sI h
          refine X_ret ?_
          simp -implicitDefEqProofs only [go_sem, seval, f1, f117, f119, f120, f122, f123, f125, f135, f137, hq]
          exact Rt.mv0 (BaseR.refl hob) (by simp) (vS)
         ·rw [if_pos f137] at h
          cases f138 : ((List.length a0.Args : Int) == 0)
          ·rw [if_neg (nF f138)] at h
           obtain ⟨x57, f139, h⟩ := bindE h
           simp -implicitDefEqProofs only [go_sem, seval, f1, f117, f119, f120, f122, f123, f125, f135, f137, f138, hq]
           refine callV_eq (portolanref04_has_ok γ _  f139) rfl rfl ?_
           simp -implicitDefEqProofs only [go_sem, seval, f1, f117, f119, f120, f122, f123, f125, f135, f137, f138, hq]
           obtain rfl := sI h
           refine X_ret ?_
           simp -implicitDefEqProofs only [go_sem, seval, f1, f117, f119, f120, f122, f123, f125, f135, f137, f138, hq]
           exact Rt.mv0 (BaseR.refl hob) (by simp) (vS)
          ·rw [if_pos f138] at h
           simp -implicitDefEqProofs only [go_sem, seval, f1, f117, f119, f120, f122, f123, f125, f135, f137, f138, hq]
           obtain rfl := sI h
           refine X_ret ?_
           simp -implicitDefEqProofs only [go_sem, seval, f1, f117, f119, f120, f122, f123, f125, f135, f137, f138, hq]
           exact Rt.mv0 (BaseR.refl hob) (by simp) (vS)
        ·rw [if_pos f135] at h
         cases f140 : ((List.length a0.Args : Int) == 0)
         ·rw [if_neg (nF f140)] at h
          obtain ⟨x58, f141, h⟩ := bindE h
          simp -implicitDefEqProofs only [go_sem, seval, f1, f117, f119, f120, f122, f123, f125, f135, f140, hq]
          refine callV_eq (portolanref04_has_ok γ _  f141) rfl rfl ?_
          simp -implicitDefEqProofs only [go_sem, seval, f1, f117, f119, f120, f122, f123, f125, f135, f140, hq]
          obtain rfl := sI h
          refine X_ret ?_
          simp -implicitDefEqProofs only [go_sem, seval, f1, f117, f119, f120, f122, f123, f125, f135, f140, hq]
          exact Rt.mv0 (BaseR.refl hob) (by simp) (vS)
         ·rw [if_pos f140] at h
          simp -implicitDefEqProofs only [go_sem, seval, f1, f117, f119, f120, f122, f123, f125, f135, f140, hq]
          obtain rfl := sI h
          refine X_ret ?_
          simp -implicitDefEqProofs only [go_sem, seval, f1, f117, f119, f120, f122, f123, f125, f135, f140, hq]
          exact Rt.mv0 (BaseR.refl hob) (by simp) (vS)
      ·rw [if_pos f123] at h
       cases f142 : (a0.M == 0)
       ·rw [if_neg (nF f142)] at h
        obtain ⟨x59, f143, h⟩ := bindE h
        simp -implicitDefEqProofs only [go_sem, seval, f1, f117, f119, f120, f122, f123, f142, hq]
        refine callV_eq (portolanref04_has_ok γ _  f143) rfl rfl ?_
        cases f144 : x59
        ·rw [if_neg (nF f144)] at h
         simp -implicitDefEqProofs only [go_sem, seval, f1, f117, f119, f120, f122, f123, f142, f144, hq]
         obtain rfl := sI h
         refine X_ret ?_
         simp -implicitDefEqProofs only [go_sem, seval, f1, f117, f119, f120, f122, f123, f142, f144, hq]
         exact Rt.mv0 (BaseR.refl hob) (by simp) (vS)
        ·rw [if_pos f144] at h
         cases f145 : ((List.length a0.Args : Int) == 0)
         ·rw [if_neg (nF f145)] at h
          obtain ⟨x60, f146, h⟩ := bindE h
          simp -implicitDefEqProofs only [go_sem, seval, f1, f117, f119, f120, f122, f123, f142, f144, f145, hq]
          refine callV_eq (portolanref04_has_ok γ _  f146) rfl rfl ?_
          simp -implicitDefEqProofs only [go_sem, seval, f1, f117, f119, f120, f122, f123, f142, f144, f145, hq]
          obtain rfl := sI h
          refine X_ret ?_
          simp -implicitDefEqProofs only [go_sem, seval, f1, f117, f119, f120, f122, f123, f142, f144, f145, hq]
          exact Rt.mv0 (BaseR.refl hob) (by simp) (vS)
         ·rw [if_pos f145] at h
          simp -implicitDefEqProofs only [go_sem, seval, f1, f117, f119, f120, f122, f123, f142, f144, f145, hq]
          obtain rfl := sI h
          refine X_ret ?_
          simp -implicitDefEqProofs only [go_sem, seval, f1, f117, f119, f120, f122, f123, f142, f144, f145, hq]
          exact Rt.mv0 (BaseR.refl hob) (by simp) (vS)
       ·rw [if_pos f142] at h
        cases f147 : ((List.length a0.Args : Int) == 0)
        ·rw [if_neg (nF f147)] at h
         obtain ⟨x61, f148, h⟩ := bindE h
         simp -implicitDefEqProofs only [go_sem, seval, f1, f117, f119, f120, f122, f123, f142, f147, hq]
         refine callV_eq (portolanref04_has_ok γ _  f148) rfl rfl ?_
         simp -implicitDefEqProofs only [go_sem, seval, f1, f117, f119, f120, f122, f123, f142, f147, hq]
         obtain rfl := sI h
         refine X_ret ?_
         simp -implicitDefEqProofs only [go_sem, seval, f1, f117, f119, f120, f122, f123, f142, f147, hq]
         exact Rt.mv0 (BaseR.refl hob) (by simp) (vS)
        ·rw [if_pos f147] at h
         simp -implicitDefEqProofs only [go_sem, seval, f1, f117, f119, f120, f122, f123, f142, f147, hq]
         obtain rfl := sI h
         refine X_ret ?_
         simp -implicitDefEqProofs only [go_sem, seval, f1, f117, f119, f120, f122, f123, f142, f147, hq]
         exact Rt.mv0 (BaseR.refl hob) (by simp) (vS)
    ·rw [if_pos f120] at h
     cases f149 : (a0.N == 0)
     ·rw [if_neg (nF f149)] at h
      obtain ⟨x62, f150, h⟩ := bindE h
      simp -implicitDefEqProofs only [go_sem, seval, f1, f117, f119, f120, f149, hq]
      refine callV_eq (portolanref04_has_ok γ _  f150) rfl rfl ?_
      cases f151 : x62
      ·rw [if_neg (nF f151)] at h
       obtain ⟨x63, f152, h⟩ := bindE h
       simp -implicitDefEqProofs only [go_sem, seval, f1, f117, f119, f120, f149, f151, hq]
       refine callV_eq (portolanref04_has_ok γ _  f152) rfl rfl ?_
       cases f153 : x63
       ·rw [if_neg (nF f153)] at h
        simp -implicitDefEqProofs only [go_sem, seval, f1, f117, f119, f120, f149, f151, f153, hq]
        obtain rfl := sI h
        refine X_ret ?_
        simp -implicitDefEqProofs only [go_sem, seval, f1, f117, f119, f120, f149, f151, f153, hq]
        exact Rt.mv0 (BaseR.refl hob) (by simp) (vS)
       ·rw [if_pos f153] at h
        cases f154 : (a0.M == 0)
        ·rw [if_neg (nF f154)] at h
         obtain ⟨x64, f155, h⟩ := bindE h
         simp -implicitDefEqProofs only [go_sem, seval, f1, f117, f119, f120, f149, f151, f153, f154, hq]
         refine callV_eq (portolanref04_has_ok γ _  f155) rfl rfl ?_
         cases f156 : x64
         ·rw [if_neg (nF f156)] at h
          simp -implicitDefEqProofs only [go_sem, seval, f1, f117, f119, f120, f149, f151, f153, f154, f156, hq]
          obtain rfl := sI h
          refine X_ret ?_
          simp -implicitDefEqProofs only [go_sem, seval, f1, f117, f119, f120, f149, f151, f153, f154, f156, hq]
          exact Rt.mv0 (BaseR.refl hob) (by simp) (vS)
         ·rw [if_pos f156] at h
          cases f157 : ((List.length a0.Args : Int) == 0)
          ·rw [if_neg (nF f157)] at h
           obtain ⟨x65, f158, h⟩ := bindE h
           simp -implicitDefEqProofs only [go_sem, seval, f1, f117, f119, f120, f149, f151, f153, f154, f156, f157, hq]
           refine callV_eq (portolanref04_has_ok γ _  f158) rfl rfl ?_
           simp -implicitDefEqProofs only [go_sem, seval, f1, f117, f119, f120, f149, f151, f153, f154, f156, f157, hq]
           obtain rfl := sI h
           refine X_ret ?_
           simp -implicitDefEqProofs only [go_sem, seval, f1, f117, f119, f120, f149, f151, f153, f154, f156, f157, hq]
           exact Rt.mv0 (BaseR.refl hob) (by simp) (vS)
          ·rw [if_pos f157] at h
           simp -implicitDefEqProofs only [go_sem, seval, f1, f117, f119, f120, f149, f151, f153, f154, f156, f157, hq]
           obtain rfl := sI h
           refine X_ret ?_
           simp -implicitDefEqProofs only [go_sem, seval, f1, f117, f119, f120, f149, f151, f153, f154, f156, f157, hq]
           exact Rt.mv0 (BaseR.refl hob) (by simp) (vS)
        ·rw [if_pos f154] at h
         cases f159 : ((List.length a0.Args : Int) == 0)
         ·rw [if_neg (nF f159)] at h
          obtain ⟨x66, f160, h⟩ := bindE h
          simp -implicitDefEqProofs only [go_sem, seval, f1, f117, f119, f120, f149, f151, f153, f154, f159, hq]
          refine callV_eq (portolanref04_has_ok γ _  f160) rfl rfl ?_
          simp -implicitDefEqProofs only [go_sem, seval, f1, f117, f119, f120, f149, f151, f153, f154, f159, hq]
          obtain rfl := sI h
          refine X_ret ?_
          simp -implicitDefEqProofs only [go_sem, seval, f1, f117, f119, f120, f149, f151, f153, f154, f159, hq]
          exact Rt.mv0 (BaseR.refl hob) (by simp) (vS)
         ·rw [if_pos f159] at h
          simp -implicitDefEqProofs only [go_sem, seval, f1, f117, f119, f120, f149, f151, f153, f154, f159, hq]
          obtain rfl := sI h
          refine X_ret ?_
          simp -implicitDefEqProofs only [go_sem, seval, f1, f117, f119, f120, f149, f151, f153, f154, f159, hq]
          exact Rt.mv0 (BaseR.refl hob) (by simp) (vS)
      ·rw [if_pos f151] at h
       cases f161 : (a0.M == 0)
       ·rw [if_neg (nF f161)] at h
        obtain ⟨x67, f162, h⟩ := bindE h
        simp -implicitDefEqProofs only [go_sem, seval, f1, f117, f119, f120, f149, f151, f161, hq]
        refine callV_eq (portolanref04_has_ok γ _  f162) rfl rfl ?_
        cases f163 : x67
        ·rw [if_neg (nF f163)] at h
         simp -implicitDefEqProofs only [go_sem, seval, f1, f117, f119, f120, f149, f151, f161, f163, hq]
         obtain rfl := sI h
         refine X_ret ?_
         simp -implicitDefEqProofs only [go_sem, seval, f1, f117, f119, f120, f149, f151, f161, f163, hq]
         exact Rt.mv0 (BaseR.refl hob) (by simp) (vS)
        ·rw [if_pos f163] at h
         cases f164 : ((List.length a0.Args : Int) == 0)
         ·rw [if_neg (nF f164)] at h
          obtain ⟨x68, f165, h⟩ := bindE h
          simp -implicitDefEqProofs only [go_sem, seval, f1, f117, f119, f120, f149, f151, f161, f163, f164, hq]
          refine callV_eq (portolanref04_has_ok γ _  f165) rfl rfl ?_
          simp -implicitDefEqProofs only [go_sem, seval, f1, f117, f119, f120, f149, f151, f161, f163, f164, hq]
          obtain rfl := sI h
          refine X_ret ?_
          simp -implicitDefEqProofs only [go_sem, seval, f1, f117, f119, f120, f149, f151, f161, f163, f164, hq]
          exact Rt.mv0 (BaseR.refl hob) (by simp) (vS)
         ·rw [if_pos f164] at h
          simp -implicitDefEqProofs only [go_sem, seval, f1, f117, f119, f120, f149, f151, f161, f163, f164, hq]
          obtain rfl := sI h
          refine X_ret ?_
          simp -implicitDefEqProofs only [go_sem, seval, f1, f117, f119, f120, f149, f151, f161, f163, f164, hq]
          exact Rt.mv0 (BaseR.refl hob) (by simp) (vS)
       ·rw [if_pos f161] at h
        cases f166 : ((List.length a0.Args : Int) == 0)
        ·rw [if_neg (nF f166)] at h
         obtain ⟨x69, f167, h⟩ := bindE h
         simp -implicitDefEqProofs only [go_sem, seval, f1, f117, f119, f120, f149, f151, f161, f166, hq]
         refine callV_eq (portolanref04_has_ok γ _  f167) rfl rfl ?_
         simp -implicitDefEqProofs only [go_sem, seval, f1, f117, f119, f120, f149, f151, f161, f166, hq]
         obtain rfl := sI h
         refine X_ret ?_
         simp -implicitDefEqProofs only [go_sem, seval, f1, f117, f119, f120, f149, f151, f161, f166, hq]
         exact Rt.mv0 (BaseR.refl hob) (by simp) (vS)
        ·rw [if_pos f166] at h
         simp -implicitDefEqProofs only [go_sem, seval, f1, f117, f119, f120, f149, f151, f161, f166, hq]
         obtain rfl := sI h
         refine X_ret ?_
         simp -implicitDefEqProofs only [go_sem, seval, f1, f117, f119, f120, f149, f151, f161, f166, hq]
         exact Rt.mv0 (BaseR.refl hob) (by simp) (vS)
     ·rw [if_pos f149] at h
      cases f168 : (a0.M == 0)
      ·rw [if_neg (nF f168)] at h
       obtain ⟨x70, f169, h⟩ := bindE h
       simp -implicitDefEqProofs only [go_sem, seval, f1, f117, f119, f120, f149, f168, hq]
       refine callV_eq (portolanref04_has_ok γ _  f169) rfl rfl ?_
       cases f170 : x70
       ·rw [if_neg (nF f170)] at h
        simp -implicitDefEqProofs only [go_sem, seval, f1, f117, f119, f120, f149, f168, f170, hq]
        obtain rfl := sI h
        refine X_ret ?_
        simp -implicitDefEqProofs only [go_sem, seval, f1, f117, f119, f120, f149, f168, f170, hq]
        exact Rt.mv0 (BaseR.refl hob) (by simp) (vS)
       ·rw [if_pos f170] at h
        cases f171 : ((List.length a0.Args : Int) == 0)
        ·rw [if_neg (nF f171)] at h
         obtain ⟨x71, f172, h⟩ := bindE h
         simp -implicitDefEqProofs only [go_sem, seval, f1, f117, f119, f120, f149, f168, f170, f171, hq]
         refine callV_eq (portolanref04_has_ok γ _  f172) rfl rfl ?_
         simp -implicitDefEqProofs only [go_sem, seval, f1, f117, f119, f120, f149, f168, f170, f171, hq]
         obtain rfl := sI h
         refine X_ret ?_
         simp -implicitDefEqProofs only [go_sem, seval, f1, f117, f119, f120, f149, f168, f170, f171, hq]
         exact Rt.mv0 (BaseR.refl hob) (by simp) (vS)
        ·rw [if_pos f171] at h
         simp -implicitDefEqProofs only [go_sem, seval, f1, f117, f119, f120, f149, f168, f170, f171, hq]
         obtain rfl := sI h
         refine X_ret ?_
         simp -implicitDefEqProofs only [go_sem, seval, f1, f117, f119, f120, f149, f168, f170, f171, hq]
         exact Rt.mv0 (BaseR.refl hob) (by simp) (vS)
      ·rw [if_pos f168] at h
       cases f173 : ((List.length a0.Args : Int) == 0)
       ·rw [if_neg (nF f173)] at h
        obtain ⟨x72, f174, h⟩ := bindE h
        simp -implicitDefEqProofs only [go_sem, seval, f1, f117, f119, f120, f149, f168, f173, hq]
        refine callV_eq (portolanref04_has_ok γ _  f174) rfl rfl ?_
        simp -implicitDefEqProofs only [go_sem, seval, f1, f117, f119, f120, f149, f168, f173, hq]
        obtain rfl := sI h
        refine X_ret ?_
        simp -implicitDefEqProofs only [go_sem, seval, f1, f117, f119, f120, f149, f168, f173, hq]
        exact Rt.mv0 (BaseR.refl hob) (by simp) (vS)
       ·rw [if_pos f173] at h
        simp -implicitDefEqProofs only [go_sem, seval, f1, f117, f119, f120, f149, f168, f173, hq]
        obtain rfl := sI h
        refine X_ret ?_
        simp -implicitDefEqProofs only [go_sem, seval, f1, f117, f119, f120, f149, f168, f173, hq]
        exact Rt.mv0 (BaseR.refl hob) (by simp) (vS)
  ·rw [if_pos f117] at h
   cases f175 : (a0.B == 0)
   ·rw [if_neg (nF f175)] at h
    obtain ⟨x73, f176, h⟩ := bindE h
    simp -implicitDefEqProofs only [go_sem, seval, f1, f117, f175, hq]
    refine callV_eq (portolanref04_has_ok γ _  f176) rfl rfl ?_
    cases f177 : x73
    ·rw [if_neg (nF f177)] at h
     simp -implicitDefEqProofs only [go_sem, seval, f1, f117, f175, f177, hq]
     obtain rfl := sI h
     refine X_ret ?_
     simp -implicitDefEqProofs only [go_sem, seval, f1, f117, f175, f177, hq]
     exact Rt.mv0 (BaseR.refl hob) (by simp) (vS)
    ·rw [if_pos f177] at h
     cases f178 : (a0.N == 0)
     ·rw [if_neg (nF f178)] at h
      obtain ⟨x74, f179, h⟩ := bindE h
      simp -implicitDefEqProofs only [go_sem, seval, f1, f117, f175, f177, f178, hq]
      refine callV_eq (portolanref04_has_ok γ _  f179) rfl rfl ?_
      cases f180 : x74
      ·rw [if_neg (nF f180)] at h
       obtain ⟨x75, f181, h⟩ := bindE h
       simp -implicitDefEqProofs only [go_sem, seval, f1, f117, f175, f177, f178, f180, hq]
       refine callV_eq (portolanref04_has_ok γ _  f181) rfl rfl ?_
       cases f182 : x75
       ·rw [if_neg (nF f182)] at h
        simp -implicitDefEqProofs only [go_sem, seval, f1, f117, f175, f177, f178, f180, f182, hq]
        obtain rfl := sI h
        refine X_ret ?_
        simp -implicitDefEqProofs only [go_sem, seval, f1, f117, f175, f177, f178, f180, f182, hq]
        exact Rt.mv0 (BaseR.refl hob) (by simp) (vS)
       ·rw [if_pos f182] at h
        cases f183 : (a0.M == 0)
        ·rw [if_neg (nF f183)] at h
         obtain ⟨x76, f184, h⟩ := bindE h
         simp -implicitDefEqProofs only [go_sem, seval, f1, f117, f175, f177, f178, f180, f182, f183, hq]
         refine callV_eq (portolanref04_has_ok γ _  f184) rfl rfl ?_
         cases f185 : x76
         ·rw [if_neg (nF f185)] at h
          simp -implicitDefEqProofs only [go_sem, seval, f1, f117, f175, f177, f178, f180, f182, f183, f185, hq]
          obtain rfl := sI h
          refine X_ret ?_
          simp -implicitDefEqProofs only [go_sem, seval, f1, f117, f175, f177, f178, f180, f182, f183, f185, hq]
          exact Rt.mv0 (BaseR.refl hob) (by simp) (vS)
         ·rw [if_pos f185] at h
          cases f186 : ((List.length a0.Args : Int) == 0)
          ·rw [if_neg (nF f186)] at h
           obtain ⟨x77, f187, h⟩ := bindE h
           simp -implicitDefEqProofs only [go_sem, seval, f1, f117, f175, f177, f178, f180, f182, f183, f185, f186, hq]
           refine callV_eq (portolanref04_has_ok γ _  f187) rfl rfl ?_
           simp -implicitDefEqProofs only [go_sem, seval, f1, f117, f175, f177, f178, f180, f182, f183, f185, f186, hq]
           obtain rfl := sI h
           refine X_ret ?_
           simp -implicitDefEqProofs only [go_sem, seval, f1, f117, f175, f177, f178, f180, f182, f183, f185, f186, hq]
           exact Rt.mv0 (BaseR.refl hob) (by simp) (vS)
          ·rw [if_pos f186] at h
           simp -implicitDefEqProofs only [go_sem, seval, f1, f117, f175, f177, f178, f180, f182, f183, f185, f186, hq]
           obtain rfl := sI h
           refine X_ret ?_
           simp -implicitDefEqProofs only [go_sem, seval, f1, f117, f175, f177, f178, f180, f182, f183, f185, f186, hq]
           exact Rt.mv0 (BaseR.refl hob) (by simp) (vS)
        ·rw [if_pos f183] at h
         cases f188 : ((List.length a0.Args : Int) == 0)
         ·rw [if_neg (nF f188)] at h
          obtain ⟨x78, f189, h⟩ := bindE h
          simp -implicitDefEqProofs only [go_sem, seval, f1, f117, f175, f177, f178, f180, f182, f183, f188, hq]
          refine callV_eq (portolanref04_has_ok γ _  f189) rfl rfl ?_
          simp -implicitDefEqProofs only [go_sem, seval, f1, f117, f175, f177, f178, f180, f182, f183, f188, hq]
          obtain rfl := sI h
          refine X_ret ?_
          simp -implicitDefEqProofs only [go_sem, seval, f1, f117, f175, f177, f178, f180, f182, f183, f188, hq]
          exact Rt.mv0 (BaseR.refl hob) (by simp) (vS)
         ·rw [if_pos f188] at h
          simp -implicitDefEqProofs only [go_sem, seval, f1, f117, f175, f177, f178, f180, f182, f183, f188, hq]
          obtain rfl := sI h
          refine X_ret ?_
          simp -implicitDefEqProofs only [go_sem, seval, f1, f117, f175, f177, f178, f180, f182, f183, f188, hq]
          exact Rt.mv0 (BaseR.refl hob) (by simp) (vS)
      ·rw [if_pos f180] at h
       cases f190 : (a0.M == 0)
       ·rw [if_neg (nF f190)] at h
        obtain ⟨x79, f191, h⟩ := bindE h
        simp -implicitDefEqProofs only [go_sem, seval, f1, f117, f175, f177, f178, f180, f190, hq]
        refine callV_eq (portolanref04_has_ok γ _  f191) rfl rfl ?_
        cases f192 : x79
        ·rw [if_neg (nF f192)] at h
         simp -implicitDefEqProofs only [go_sem, seval, f1, f117, f175, f177, f178, f180, f190, f192, hq]
         obtain rfl := sI h
         refine X_ret ?_
         simp -implicitDefEqProofs only [go_sem, seval, f1, f117, f175, f177, f178, f180, f190, f192, hq]
         exact Rt.mv0 (BaseR.refl hob) (by simp) (vS)
        ·rw [if_pos f192] at h
         cases f193 : ((List.length a0.Args : Int) == 0)
         ·rw [if_neg (nF f193)] at h
          obtain ⟨x80, f194, h⟩ := bindE h
          simp -implicitDefEqProofs only [go_sem, seval, f1, f117, f175, f177, f178, f180, f190, f192, f193, hq]
          refine callV_eq (portolanref04_has_ok γ _  f194) rfl rfl ?_
          simp -implicitDefEqProofs only [go_sem, seval, f1, f117, f175, f177, f178, f180, f190, f192, f193, hq]
          obtain rfl := sI h
          refine X_ret ?_
          simp -implicitDefEqProofs only [go_sem, seval, f1, f117, f175, f177, f178, f180, f190, f192, f193, hq]
          exact Rt.mv0 (BaseR.refl hob) (by simp) (vS)
         ·rw [if_pos f193] at h
          simp -implicitDefEqProofs only [go_sem, seval, f1, f117, f175, f177, f178, f180, f190, f192, f193, hq]
          obtain rfl := sI h
          refine X_ret ?_
          simp -implicitDefEqProofs only [go_sem, seval, f1, f117, f175, f177, f178, f180, f190, f192, f193, hq]
          exact Rt.mv0 (BaseR.refl hob) (by simp) (vS)
       ·rw [if_pos f190] at h
        cases f195 : ((List.length a0.Args : Int) == 0)
        ·rw [if_neg (nF f195)] at h
         obtain ⟨x81, f196, h⟩ := bindE h
         simp -implicitDefEqProofs only [go_sem, seval, f1, f117, f175, f177, f178, f180, f190, f195, hq]
         refine callV_eq (portolanref04_has_ok γ _  f196) rfl rfl ?_
         simp -implicitDefEqProofs only [go_sem, seval, f1, f117, f175, f177, f178, f180, f190, f195, hq]
         obtain rfl := sI h
         refine X_ret ?_
         simp -implicitDefEqProofs only [go_sem, seval, f1, f117, f175, f177, f178, f180, f190, f195, hq]
         exact Rt.mv0 (BaseR.refl hob) (by simp) (vS)
        ·rw [if_pos f195] at h
         simp -implicitDefEqProofs only [go_sem, seval, f1, f117, f175, f177, f178, f180, f190, f195, hq]
         obtain rfl := sI h
         refine X_ret ?_
         simp -implicitDefEqProofs only [go_sem, seval, f1, f117, f175, f177, f178, f180, f190, f195, hq]
         exact Rt.mv0 (BaseR.refl hob) (by simp) (vS)
     ·rw [if_pos f178] at h
      cases f197 : (a0.M == 0)
      ·rw [if_neg (nF f197)] at h
       obtain ⟨x82, f198, h⟩ := bindE h
       simp -implicitDefEqProofs only [go_sem, seval, f1, f117, f175, f177, f178, f197, hq]
       refine callV_eq (portolanref04_has_ok γ _  f198) rfl rfl ?_
       cases f199 : x82
       ·rw [if_neg (nF f199)] at h
        simp -implicitDefEqProofs only [go_sem, seval, f1, f117, f175, f177, f178, f197, f199, hq]
        obtain rfl := sI h
        refine X_ret ?_
        simp -implicitDefEqProofs only [go_sem, seval, f1, f117, f175, f177, f178, f197, f199, hq]
        exact Rt.mv0 (BaseR.refl hob) (by simp) (vS)
       ·rw [if_pos f199] at h
        cases f200 : ((List.length a0.Args : Int) == 0)
        ·rw [if_neg (nF f200)] at h
         obtain ⟨x83, f201, h⟩ := bindE h
         simp -implicitDefEqProofs only [go_sem, seval, f1, f117, f175, f177, f178, f197, f199, f200, hq]
         refine callV_eq (portolanref04_has_ok γ _  f201) rfl rfl ?_
         simp -implicitDefEqProofs only [go_sem, seval, f1, f117, f175, f177, f178, f197, f199, f200, hq]
         obtain rfl := sI h
         refine X_ret ?_
         simp -implicitDefEqProofs only [go_sem, seval, f1, f117, f175, f177, f178, f197, f199, f200, hq]
         exact Rt.mv0 (BaseR.refl hob) (by simp) (vS)
        ·rw [if_pos f200] at h
         simp -implicitDefEqProofs only [go_sem, seval, f1, f117, f175, f177, f178, f197, f199, f200, hq]
         obtain rfl := sI h
         refine X_ret ?_
         simp -implicitDefEqProofs only [go_sem, seval, f1, f117, f175, f177, f178, f197, f199, f200, hq]
         exact Rt.mv0 (BaseR.refl hob) (by simp) (vS)
      ·rw [if_pos f197] at h
       cases f202 : ((List.length a0.Args : Int) == 0)
       ·rw [if_neg (nF f202)] at h
        obtain ⟨x84, f203, h⟩ := bindE h
        simp -implicitDefEqProofs only [go_sem, seval, f1, f117, f175, f177, f178, f197, f202, hq]
        refine callV_eq (portolanref04_has_ok γ _  f203) rfl rfl ?_
        simp -implicitDefEqProofs only [go_sem, seval, f1, f117, f175, f177, f178, f197, f202, hq]
        obtain rfl := sI h
        refine X_ret ?_
        simp -implicitDefEqProofs only [go_sem, seval, f1, f117, f175, f177, f178, f197, f202, hq]
        exact Rt.mv0 (BaseR.refl hob) (by simp) (vS)
       ·rw [if_pos f202] at h
        simp -implicitDefEqProofs only [go_sem, seval, f1, f117, f175, f177, f178, f197, f202, hq]
        obtain rfl := sI h
        refine X_ret ?_
        simp -implicitDefEqProofs only [go_sem, seval, f1, f117, f175, f177, f178, f197, f202, hq]
        exact Rt.mv0 (BaseR.refl hob) (by simp) (vS)
   ·rw [if_pos f175] at h
    cases f204 : (a0.N == 0)
    ·rw [if_neg (nF f204)] at h
     obtain ⟨x85, f205, h⟩ := bindE h
     simp -implicitDefEqProofs only [go_sem, seval, f1, f117, f175, f204, hq]
     refine callV_eq (portolanref04_has_ok γ _  f205) rfl rfl ?_
     cases f206 : x85
     ·rw [if_neg (nF f206)] at h
      obtain ⟨x86, f207, h⟩ := bindE h
      simp -implicitDefEqProofs only [go_sem, seval, f1, f117, f175, f204, f206, hq]
      refine callV_eq (portolanref04_has_ok γ _  f207) rfl rfl ?_
      cases f208 : x86
      ·rw [if_neg (nF f208)] at h
       simp -implicitDefEqProofs only [go_sem, seval, f1, f117, f175, f204, f206, f208, hq]
       obtain rfl := sI h
       refine X_ret ?_
       simp -implicitDefEqProofs only [go_sem, seval, f1, f117, f175, f204, f206, f208, hq]
       exact Rt.mv0 (BaseR.refl hob) (by simp) (vS)
      ·rw [if_pos f208] at h
       cases f209 : (a0.M == 0)
       ·rw [if_neg (nF f209)] at h
        obtain ⟨x87, f210, h⟩ := bindE h
        simp -implicitDefEqProofs only [go_sem, seval, f1, f117, f175, f204, f206, f208, f209, hq]
        refine callV_eq (portolanref04_has_ok γ _  f210) rfl rfl ?_
        cases f211 : x87
        ·rw [if_neg (nF f211)] at h
         simp -implicitDefEqProofs only [go_sem, seval, f1, f117, f175, f204, f206, f208, f209, f211, hq]
         obtain rfl := sI h
         refine X_ret ?_
         simp -implicitDefEqProofs only [go_sem, seval, f1, f117, f175, f204, f206, f208, f209, f211, hq]
         exact Rt.mv0 (BaseR.refl hob) (by simp) (vS)
        ·rw [if_pos f211] at h
         cases f212 : ((List.length a0.Args : Int) == 0)
         ·rw [if_neg (nF f212)] at h
          obtain ⟨x88, f213, h⟩ := bindE h
          simp -implicitDefEqProofs only [go_sem, seval, f1, f117, f175, f204, f206, f208, f209, f211, f212, hq]
          refine callV_eq (portolanref04_has_ok γ _  f213) rfl rfl ?_
          simp -implicitDefEqProofs only [go_sem, seval, f1, f117, f175, f204, f206, f208, f209, f211, f212, hq]
          obtain rfl := sI h
          refine X_ret ?_
          simp -implicitDefEqProofs only [go_sem, seval, f1, f117, f175, f204, f206, f208, f209, f211, f212, hq]
          exact Rt.mv0 (BaseR.refl hob) (by simp) (vS)
         ·rw [if_pos f212] at h
          simp -implicitDefEqProofs only [go_sem, seval, f1, f117, f175, f204, f206, f208, f209, f211, f212, hq]
          obtain rfl := sI h
          refine X_ret ?_
          simp -implicitDefEqProofs only [go_sem, seval, f1, f117, f175, f204, f206, f208, f209, f211, f212, hq]
          exact Rt.mv0 (BaseR.refl hob) (by simp) (vS)
       ·rw [if_pos f209] at h
        cases f214 : ((List.length a0.Args : Int) == 0)
        ·rw [if_neg (nF f214)] at h
         obtain ⟨x89, f215, h⟩ := bindE h
         simp -implicitDefEqProofs only [go_sem, seval, f1, f117, f175, f204, f206, f208, f209, f214, hq]
         refine callV_eq (portolanref04_has_ok γ _  f215) rfl rfl ?_
         simp -implicitDefEqProofs only [go_sem, seval, f1, f117, f175, f204, f206, f208, f209, f214, hq]
         obtain rfl := sI h
         refine X_ret ?_
         simp -implicitDefEqProofs only [go_sem, seval, f1, f117, f175, f204, f206, f208, f209, f214, hq]
         exact Rt.mv0 (BaseR.refl hob) (by simp) (vS)
        ·rw [if_pos f214] at h
         simp -implicitDefEqProofs only [go_sem, seval, f1, f117, f175, f204, f206, f208, f209, f214, hq]
         obtain rfl := sI h
         refine X_ret ?_
         simp -implicitDefEqProofs only [go_sem, seval, f1, f117, f175, f204, f206, f208, f209, f214, hq]
         exact Rt.mv0 (BaseR.refl hob) (by simp) (vS)
     ·rw [if_pos f206] at h
      cases f216 : (a0.M == 0)
      ·rw [if_neg (nF f216)] at h
       obtain ⟨x90, f217, h⟩ := bindE h
       simp -implicitDefEqProofs only [go_sem, seval, f1, f117, f175, f204, f206, f216, hq]
       refine callV_eq (portolanref04_has_ok γ _  f217) rfl rfl ?_
       cases f218 : x90
       ·rw [if_neg (nF f218)] at h
        simp -implicitDefEqProofs only [go_sem, seval, f1, f117, f175, f204, f206, f216, f218, hq]
        obtain rfl := sI h
        refine X_ret ?_
        simp -implicitDefEqProofs only [go_sem, seval, f1, f117, f175, f204, f206, f216, f218, hq]
        exact Rt.mv0 (BaseR.refl hob) (by simp) (vS)
       ·rw [if_pos f218] at h
        cases f219 : ((List.length a0.Args : Int) == 0)
        ·rw [if_neg (nF f219)] at h
         obtain ⟨x91, f220, h⟩ := bindE h
         simp -implicitDefEqProofs only [go_sem, seval, f1, f117, f175, f204, f206, f216, f218, f219, hq]
         refine callV_eq (portolanref04_has_ok γ _  f220) rfl rfl ?_
         simp -implicitDefEqProofs only [go_sem, seval, f1, f117, f175, f204, f206, f216, f218, f219, hq]
         obtain rfl := sI h
         refine X_ret ?_
         simp -implicitDefEqProofs only [go_sem, seval, f1, f117, f175, f204, f206, f216, f218, f219, hq]
         exact Rt.mv0 (BaseR.refl hob) (by simp) (vS)
        ·rw [if_pos f219] at h
         simp -implicitDefEqProofs only [go_sem, seval, f1, f117, f175, f204, f206, f216, f218, f219, hq]
         obtain rfl := sI h
         refine X_ret ?_
         simp -implicitDefEqProofs only [go_sem, seval, f1, f117, f175, f204, f206, f216, f218, f219, hq]
         exact Rt.mv0 (BaseR.refl hob) (by simp) (vS)
      ·rw [if_pos f216] at h
       cases f221 : ((List.length a0.Args : Int) == 0)
       ·rw [if_neg (nF f221)] at h
        obtain ⟨x92, f222, h⟩ := bindE h
        simp -implicitDefEqProofs only [go_sem, seval, f1, f117, f175, f204, f206, f216, f221, hq]
        refine callV_eq (portolanref04_has_ok γ _  f222) rfl rfl ?_
        simp -implicitDefEqProofs only [go_sem, seval, f1, f117, f175, f204, f206, f216, f221, hq]
        obtain rfl := sI h
        refine X_ret ?_
        simp -implicitDefEqProofs only [go_sem, seval, f1, f117, f175, f204, f206, f216, f221, hq]
        exact Rt.mv0 (BaseR.refl hob) (by simp) (vS)
       ·rw [if_pos f221] at h
        simp -implicitDefEqProofs only [go_sem, seval, f1, f117, f175, f204, f206, f216, f221, hq]
        obtain rfl := sI h
        refine X_ret ?_
        simp -implicitDefEqProofs only [go_sem, seval, f1, f117, f175, f204, f206, f216, f221, hq]
        exact Rt.mv0 (BaseR.refl hob) (by simp) (vS)
    ·rw [if_pos f204] at h
     cases f223 : (a0.M == 0)
     ·rw [if_neg (nF f223)] at h
      obtain ⟨x93, f224, h⟩ := bindE h
      simp -implicitDefEqProofs only [go_sem, seval, f1, f117, f175, f204, f223, hq]
      refine callV_eq (portolanref04_has_ok γ _  f224) rfl rfl ?_
      cases f225 : x93
      ·rw [if_neg (nF f225)] at h
       simp -implicitDefEqProofs only [go_sem, seval, f1, f117, f175, f204, f223, f225, hq]
       obtain rfl := sI h
       refine X_ret ?_
       simp -implicitDefEqProofs only [go_sem, seval, f1, f117, f175, f204, f223, f225, hq]
       exact Rt.mv0 (BaseR.refl hob) (by simp) (vS)
      ·rw [if_pos f225] at h
       cases f226 : ((List.length a0.Args : Int) == 0)
       ·rw [if_neg (nF f226)] at h
        obtain ⟨x94, f227, h⟩ := bindE h
        simp -implicitDefEqProofs only [go_sem, seval, f1, f117, f175, f204, f223, f225, f226, hq]
        refine callV_eq (portolanref04_has_ok γ _  f227) rfl rfl ?_
        simp -implicitDefEqProofs only [go_sem, seval, f1, f117, f175, f204, f223, f225, f226, hq]
        obtain rfl := sI h
        refine X_ret ?_
        simp -implicitDefEqProofs only [go_sem, seval, f1, f117, f175, f204, f223, f225, f226, hq]
        exact Rt.mv0 (BaseR.refl hob) (by simp) (vS)
       ·rw [if_pos f226] at h
        simp -implicitDefEqProofs only [go_sem, seval, f1, f117, f175, f204, f223, f225, f226, hq]
        obtain rfl := sI h
        refine X_ret ?_
        simp -implicitDefEqProofs only [go_sem, seval, f1, f117, f175, f204, f223, f225, f226, hq]
        exact Rt.mv0 (BaseR.refl hob) (by simp) (vS)
     ·rw [if_pos f223] at h
      cases f228 : ((List.length a0.Args : Int) == 0)
      ·rw [if_neg (nF f228)] at h
       obtain ⟨x95, f229, h⟩ := bindE h
       simp -implicitDefEqProofs only [go_sem, seval, f1, f117, f175, f204, f223, f228, hq]
       refine callV_eq (portolanref04_has_ok γ _  f229) rfl rfl ?_
       simp -implicitDefEqProofs only [go_sem, seval, f1, f117, f175, f204, f223, f228, hq]
       obtain rfl := sI h
       refine X_ret ?_
       simp -implicitDefEqProofs only [go_sem, seval, f1, f117, f175, f204, f223, f228, hq]
       exact Rt.mv0 (BaseR.refl hob) (by simp) (vS)
      ·rw [if_pos f228] at h
       simp -implicitDefEqProofs only [go_sem, seval, f1, f117, f175, f204, f223, f228, hq]
       obtain rfl := sI h
       refine X_ret ?_
       simp -implicitDefEqProofs only [go_sem, seval, f1, f117, f175, f204, f223, f228, hq]
       exact Rt.mv0 (BaseR.refl hob) (by simp) (vS)
end Go.Pf
end
section
set_option maxRecDepth 100000
namespace Go.Pf
open Go Go.Ab Go.Pp Go.Proofs Go.Proofs.S04
attribute [local go_sem] Lxτ Lxγ gam0 Int.toNat_natCast List.append_eq List.cons_append List.nil_append tau3 tau4 tau9 tau22 tau24 tau28 tau29 tau31 tau35 tau42 tau44 eI eB eS e_Ins e_Block e_Func e_Prog e_code_writer e_code_reader e_Edge
set_option maxHeartbeats 1000000 in
theorem portolanref04_Ins_ok (γ : GT) (ob : OT) {a0 : Prog} {v0_0 : V} {a1 : Int} {a2 : Ins} {v2_6 : V} (hv0_0 : rdK (getO ob) 5 v0_0 = some (List.map e_Func a0.Funcs)) (hv2_6 : rdK (getO ob) 1 v2_6 = some (List.map (eI .i64) a2.Args)) {r : Bool} (h : portolanref04_Ins a0 a1 a2 = some r) :
  Valid (Lx γ) 18 [V.agg [v0_0], vint .i64 a1, V.agg [vint .i64 a2.Op, vint .i64 a2.D, vint .i64 a2.A, vint .i64 a2.B, vint .i64 a2.N, vint .i64 a2.M, v2_6]] ob (vbool r) ob := by
 refine valid_X (lx_ok γ) (fn := Tryd.f18) (rs := [.tmp 6]) Tryd.func18 (by kernel_rfl) rfl rfl Tryd.ntmps18 rfl (by simp) fun hb hob => ?_
 have hq := And.intro (rd4 hv0_0) (rd4 hv2_6)
 rw [portolanref04_Ins] at h
 refine X_sr (lx_ok γ) ?_
 simp -implicitDefEqProofs only [go_sem, seval, hq]
 refine X_seq ?_
 refine X_seq ?_
 refine X_jq (J := fun as1 ob1 => ∃ (x2 : Bool), portolanref04_Ins.j1 a0 a1 a2 x2 = some r ∧ [(1, vint .i64 a1), (3, V.ref ob.length 0), (5, V.ref (ob.length + 1) 0), (31, vbool x2)] = as1 ∧ ob ++ [some (O.box [v0_0]), some (O.box [vint .i64 a2.Op, vint .i64 a2.D, vint .i64 a2.A, vint .i64 a2.B, vint .i64 a2.N, vint .i64 a2.M, v2_6])] = ob1) ?_ ?_
 ·rintro as1 ob1 ⟨x2, h, rfl, rfl⟩
  rw [portolanref04_Ins.j1] at h
  simp -implicitDefEqProofs only [go_sem, seval, hq]
  cases f1 : x2
  ·rw [if_neg (nF f1)] at h
   refine X_cond (lx_ok γ) ?_
   simp -implicitDefEqProofs only [go_sem, seval, f1, hq]
   refine X_skip ?_
   try simp -implicitDefEqProofs only [go_sem]
   refine X_sr (lx_ok γ) ?_
   obtain ⟨x3, f2, h⟩ := bindE h
   obtain ⟨f3, f4, f5⟩ := ixL_some f2
   try simp only [Int.toNat_natCast, Int.reduceToNat] at f5
   simp -implicitDefEqProofs only [go_sem, seval, f1, hq, f3, f4, f5]
   refine X_sr (lx_ok γ) ?_
   obtain ⟨x4, f6, h⟩ := bindE h
   simp -implicitDefEqProofs only [go_sem, seval, f1, hq]
   refine callV_eq (portolanref04_Uses_ok γ _ (by first | exact rdK_app hv2_6 | exact hv2_6) f6) rfl rfl ?_
   simp -implicitDefEqProofs only [go_sem, seval, f1, hq]
   refine X_sr (lx_ok γ) ?_
   obtain ⟨x5, f7, h⟩ := bindE h
   simp -implicitDefEqProofs only [go_sem, seval, f1, hq]
   refine callV_eq (portolanref04_Sets_ok γ _ (by first | exact rdK_app hv2_6 | exact hv2_6) f7) rfl rfl ?_
   simp -implicitDefEqProofs only [go_sem, seval, f1, hq]
   refine X_seq ?_
   refine X_jq (J := fun as1 ob1 => ∃ (x6 : List Int), portolanref04_Ins.j2 a0 a2 x3 x6 = some r ∧ [(3, V.ref ob.length 0), (5, V.ref (ob.length + 1) 0), (7, V.ref (ob.length + 2) 0), (8, V.row (ob.length + 3) 0 0 (List.length x6))] = as1 ∧ ob ++ [some (O.box [v0_0]), some (O.box [vint .i64 a2.Op, vint .i64 a2.D, vint .i64 a2.A, vint .i64 a2.B, vint .i64 a2.N, vint .i64 a2.M, v2_6]), some (O.box [V.tr (.sl 1 false (List.map (eI .i64) x3.Kinds)), V.tr (.sl 1 false (List.map (eI .i64) x3.Base)), vint .i64 x3.Params, vint .i64 x3.Result, V.tr (.sl 1 false (List.map e_Block x3.Blocks))]), some (O.row 1 0 (List.map (eI .i64) x6))] = ob1) ?_ ?_
   ·rintro as1 ob1 ⟨x6, h, rfl, rfl⟩
    rw [portolanref04_Ins.j2] at h
    simp -implicitDefEqProofs only [go_sem, seval, f1, hq]
    refine X_seq ?_
    refine X_sr (lx_ok γ) ?_
    simp -implicitDefEqProofs only [go_sem, seval, f1, hq]
    refine X_jq (J := fun as1 ob1 => portolanref04_Ins.k1 a0 a2 x3 = some r ∧ [(3, V.ref ob.length 0), (5, V.ref (ob.length + 1) 0), (7, V.ref (ob.length + 2) 0)] = as1 ∧ ob ++ [some (O.box [v0_0]), some (O.box [vint .i64 a2.Op, vint .i64 a2.D, vint .i64 a2.A, vint .i64 a2.B, vint .i64 a2.N, vint .i64 a2.M, v2_6]), some (O.box [V.tr (.sl 1 false (List.map (eI .i64) x3.Kinds)), V.tr (.sl 1 false (List.map (eI .i64) x3.Base)), vint .i64 x3.Params, vint .i64 x3.Result, V.tr (.sl 1 false (List.map e_Block x3.Blocks))])] = ob1) ?_ ?_
    ·rintro as1 ob1 ⟨h, rfl, rfl⟩
     rw [portolanref04_Ins.k1] at h
     simp -implicitDefEqProofs only [go_sem, seval, f1, hq]
     refine X_sr (lx_ok γ) ?_
     obtain ⟨x8, f8, h⟩ := bindE h
     simp -implicitDefEqProofs only [go_sem, seval, f1, hq]
     refine callV_eq (portolanref04_Next_ok γ _ (by first | exact rdK_app hv2_6 | exact hv2_6) f8) rfl rfl ?_
     simp -implicitDefEqProofs only [go_sem, seval, f1, hq]
     refine X_seq ?_
     refine X_sr (lx_ok γ) ?_
     simp -implicitDefEqProofs only [go_sem, seval, f1, hq]
     refine X_jq (J := fun as1 ob1 => portolanref04_Ins.k2 a0 a2 = some r ∧ [(3, V.ref ob.length 0), (5, V.ref (ob.length + 1) 0)] = as1 ∧ ob ++ [some (O.box [v0_0]), some (O.box [vint .i64 a2.Op, vint .i64 a2.D, vint .i64 a2.A, vint .i64 a2.B, vint .i64 a2.N, vint .i64 a2.M, v2_6])] = ob1) ?_ ?_
     ·rintro as1 ob1 ⟨h, rfl, rfl⟩
      rw [portolanref04_Ins.k2] at h
      simp -implicitDefEqProofs only [go_sem, seval, f1, hq]
      refine X_seq ?_
      refine X_sr (lx_ok γ) ?_
      simp -implicitDefEqProofs only [go_sem, seval, f1, hq]
      refine X_block ?_
      refine X_sr (lx_ok γ) ?_
      simp -implicitDefEqProofs only [go_sem, seval, f1, hq]
      cases f9 : (a2.Op == 19)
      ·rw [if_neg (nF f9)] at h
       refine X_cond (lx_ok γ) ?_
       simp -implicitDefEqProofs only [go_sem, seval, f1, f9, hq]
       refine X_sr (lx_ok γ) ?_
       simp -implicitDefEqProofs only [go_sem, seval, f1, f9, hq]
       cases f10 : (a2.Op == 1)
       ·rw [if_neg (nF f10)] at h
        refine X_cond (lx_ok γ) ?_
        simp -implicitDefEqProofs only [go_sem, seval, f1, f9, f10, hq]
        refine X_sr (lx_ok γ) ?_
        simp -implicitDefEqProofs only [go_sem, seval, f1, f9, f10, hq]
        cases f11 : (a2.Op == 16)
        ·rw [if_neg (nF f11)] at h
         refine X_cond (lx_ok γ) ?_
         simp -implicitDefEqProofs only [go_sem, seval, f1, f9, f10, f11, hq]
         refine X_sr (lx_ok γ) ?_
         simp -implicitDefEqProofs only [go_sem, seval, f1, f9, f10, f11, hq]
         cases f12 : (a2.Op == 10)
         ·rw [if_neg (nF f12)] at h
          refine X_cond (lx_ok γ) ?_
          simp -implicitDefEqProofs only [go_sem, seval, f1, f9, f10, f11, f12, hq]
          refine X_seq ?_
          refine X_jq (J := fun as1 ob1 => ∃ (x14 : Bool), portolanref04_Ins.j3 a2 x14 = some r ∧ [(5, V.ref ob.length 0), (127, vbool x14)] = as1 ∧ ob ++ [some (O.box [vint .i64 a2.Op, vint .i64 a2.D, vint .i64 a2.A, vint .i64 a2.B, vint .i64 a2.N, vint .i64 a2.M, v2_6])] = ob1) ?_ ?_
          ·rintro as1 ob1 ⟨x14, h, rfl, rfl⟩
           rw [portolanref04_Ins.j3] at h
           simp -implicitDefEqProofs only [go_sem, seval, f1, f9, f10, f11, f12, hq]
           cases f13 : x14
           ·rw [if_neg (nF f13)] at h
            refine X_cond (lx_ok γ) ?_
            simp -implicitDefEqProofs only [go_sem, seval, f1, f9, f10, f11, f12, f13, hq]
            refine X_skip ?_
            try simp -implicitDefEqProofs only [go_sem]
            refine X_sr (lx_ok γ) ?_
            simp -implicitDefEqProofs only [go_sem, seval, f1, f9, f10, f11, f12, f13, hq]
            obtain rfl := sI h
            refine X_ret ?_
            simp -implicitDefEqProofs only [go_sem, seval, f1, f9, f10, f11, f12, f13, hq]
            exact Rt.mv0 (BaseR.refl hob) (by simp) (vS)
           ·rw [if_pos f13] at h
            refine X_cond (lx_ok γ) ?_
            simp -implicitDefEqProofs only [go_sem, seval, f1, f9, f10, f11, f12, f13, hq]
            refine X_sr (lx_ok γ) ?_
            obtain ⟨x15, f14, h⟩ := bindE h
            simp -implicitDefEqProofs only [go_sem, seval, f1, f9, f10, f11, f12, f13, hq]
            refine callV_eq (portolanref04_within_ok γ _  f14) rfl rfl ?_
            simp -implicitDefEqProofs only [go_sem, seval, f1, f9, f10, f11, f12, f13, hq]
            obtain rfl := sI h
            refine X_ret ?_
            simp -implicitDefEqProofs only [go_sem, seval, f1, f9, f10, f11, f12, f13, hq]
            exact Rt.mv0 (BaseR.refl hob) (by simp) (vS)
          ·refine X_sr (lx_ok γ) ?_
           simp -implicitDefEqProofs only [go_sem, seval, f1, f9, f10, f11, f12, hq]
           cases f15 : (a2.Op == 11)
           ·rw [if_neg (nF f15)] at h
            refine X_cond (lx_ok γ) ?_
            simp -implicitDefEqProofs only [go_sem, seval, f1, f9, f10, f11, f12, f15, hq]
            refine X_sr (lx_ok γ) ?_
            simp -implicitDefEqProofs only [go_sem, seval, f1, f9, f10, f11, f12, f15, hq]
            cases f16 : (a2.Op == 12)
            ·rw [if_neg (nF f16)] at h
             refine X_cond (lx_ok γ) ?_
             simp -implicitDefEqProofs only [go_sem, seval, f1, f9, f10, f11, f12, f15, f16, hq]
             refine X_sr (lx_ok γ) ?_
             simp -implicitDefEqProofs only [go_sem, seval, f1, f9, f10, f11, f12, f15, f16, hq]
             cases f17 : (a2.Op == 13)
             ·rw [if_neg (nF f17)] at h
              refine X_cond (lx_ok γ) ?_
              simp -implicitDefEqProofs only [go_sem, seval, f1, f9, f10, f11, f12, f15, f16, f17, hq]
              refine X_sr (lx_ok γ) ?_
              simp -implicitDefEqProofs only [go_sem, seval, f1, f9, f10, f11, f12, f15, f16, f17, hq]
              cases f18 : (a2.Op == 14)
              ·rw [if_neg (nF f18)] at h
               refine X_cond (lx_ok γ) ?_
               simp -implicitDefEqProofs only [go_sem, seval, f1, f9, f10, f11, f12, f15, f16, f17, f18, hq]
               refine X_reg (lx_ok γ) ?_
               simp -implicitDefEqProofs only [go_sem, seval, f1, f9, f10, f11, f12, f15, f16, f17, f18, hq]
               refine kJ_in ?_ ⟨(a2.Op == 15), h, rfl, rfl⟩
               exact To.mv [(1, 0)] (BaseR.refl hob) (by simp) (by decide) (by simp only [go_sem]; exact ⟨VM.refA (j := 1) (t := 0) rfl, vS⟩) ⟨⟨_, rfl, OM.box _ _ ⟨vS, vS, vS, vS, vS, vS, VM.self (by simpa using Bd.of_rdK hv2_6), trivial⟩⟩, trivial⟩
              ·rw [if_pos f18] at h
               refine X_cond (lx_ok γ) ?_
               simp -implicitDefEqProofs only [go_sem, seval, f1, f9, f10, f11, f12, f15, f16, f17, f18, hq]
               refine X_skip ?_
               try simp -implicitDefEqProofs only [go_sem]
               refine kJ_in ?_ ⟨true, h, rfl, rfl⟩
               exact To.mv [(1, 0)] (BaseR.refl hob) (by simp) (by decide) (by simp only [go_sem]; exact ⟨VM.refA (j := 1) (t := 0) rfl, vS⟩) ⟨⟨_, rfl, OM.box _ _ ⟨vS, vS, vS, vS, vS, vS, VM.self (by simpa using Bd.of_rdK hv2_6), trivial⟩⟩, trivial⟩
             ·rw [if_pos f17] at h
              refine X_cond (lx_ok γ) ?_
              simp -implicitDefEqProofs only [go_sem, seval, f1, f9, f10, f11, f12, f15, f16, f17, hq]
              refine X_skip ?_
              try simp -implicitDefEqProofs only [go_sem]
              refine kJ_in ?_ ⟨true, h, rfl, rfl⟩
              exact To.mv [(1, 0)] (BaseR.refl hob) (by simp) (by decide) (by simp only [go_sem]; exact ⟨VM.refA (j := 1) (t := 0) rfl, vS⟩) ⟨⟨_, rfl, OM.box _ _ ⟨vS, vS, vS, vS, vS, vS, VM.self (by simpa using Bd.of_rdK hv2_6), trivial⟩⟩, trivial⟩
            ·rw [if_pos f16] at h
             refine X_cond (lx_ok γ) ?_
             simp -implicitDefEqProofs only [go_sem, seval, f1, f9, f10, f11, f12, f15, f16, hq]
             refine X_skip ?_
             try simp -implicitDefEqProofs only [go_sem]
             refine kJ_in ?_ ⟨true, h, rfl, rfl⟩
             exact To.mv [(1, 0)] (BaseR.refl hob) (by simp) (by decide) (by simp only [go_sem]; exact ⟨VM.refA (j := 1) (t := 0) rfl, vS⟩) ⟨⟨_, rfl, OM.box _ _ ⟨vS, vS, vS, vS, vS, vS, VM.self (by simpa using Bd.of_rdK hv2_6), trivial⟩⟩, trivial⟩
           ·rw [if_pos f15] at h
            refine X_cond (lx_ok γ) ?_
            simp -implicitDefEqProofs only [go_sem, seval, f1, f9, f10, f11, f12, f15, hq]
            refine X_skip ?_
            try simp -implicitDefEqProofs only [go_sem]
            refine kJ_in ?_ ⟨true, h, rfl, rfl⟩
            exact To.mv [(1, 0)] (BaseR.refl hob) (by simp) (by decide) (by simp only [go_sem]; exact ⟨VM.refA (j := 1) (t := 0) rfl, vS⟩) ⟨⟨_, rfl, OM.box _ _ ⟨vS, vS, vS, vS, vS, vS, VM.self (by simpa using Bd.of_rdK hv2_6), trivial⟩⟩, trivial⟩
         ·rw [if_pos f12] at h
          refine X_cond (lx_ok γ) ?_
          simp -implicitDefEqProofs only [go_sem, seval, f1, f9, f10, f11, f12, hq]
          refine X_sr (lx_ok γ) ?_
          obtain ⟨x16, f19, h⟩ := bindE h
          simp -implicitDefEqProofs only [go_sem, seval, f1, f9, f10, f11, f12, hq]
          refine callV_eq (portolanref04_within_ok γ _  f19) rfl rfl ?_
          cases f20 : x16
          ·rw [if_neg (nF f20)] at h
           simp -implicitDefEqProofs only [go_sem, seval, f1, f9, f10, f11, f12, f20, hq]
           obtain rfl := sI h
           refine X_ret ?_
           simp -implicitDefEqProofs only [go_sem, seval, f1, f9, f10, f11, f12, f20, hq]
           exact Rt.mv0 (BaseR.refl hob) (by simp) (vS)
          ·rw [if_pos f20] at h
           obtain ⟨x17, f21, h⟩ := bindE h
           simp -implicitDefEqProofs only [go_sem, seval, f1, f9, f10, f11, f12, f20, hq]
           refine callV_eq (portolanref04_within_ok γ _  f21) rfl rfl ?_
           simp -implicitDefEqProofs only [go_sem, seval, f1, f9, f10, f11, f12, f20, hq]
           obtain rfl := sI h
           refine X_ret ?_
           simp -implicitDefEqProofs only [go_sem, seval, f1, f9, f10, f11, f12, f20, hq]
           exact Rt.mv0 (BaseR.refl hob) (by simp) (vS)
        ·rw [if_pos f11] at h
         refine X_cond (lx_ok γ) ?_
         simp -implicitDefEqProofs only [go_sem, seval, f1, f9, f10, f11, hq]
         refine X_sr (lx_ok γ) ?_
         obtain ⟨x18, f22, h⟩ := bindE h
         simp -implicitDefEqProofs only [go_sem, seval, f1, f9, f10, f11, hq]
         refine callV_eq (portolanref04_within_ok γ _  f22) rfl rfl ?_
         simp -implicitDefEqProofs only [go_sem, seval, f1, f9, f10, f11, hq]
         obtain rfl := sI h
         refine X_ret ?_
         simp -implicitDefEqProofs only [go_sem, seval, f1, f9, f10, f11, hq]
         exact Rt.mv0 (BaseR.refl hob) (by simp) (vS)
       ·rw [if_pos f10] at h
        refine X_cond (lx_ok γ) ?_
        simp -implicitDefEqProofs only [go_sem, seval, f1, f9, f10, hq]
        refine X_sr (lx_ok γ) ?_
        obtain ⟨x19, f23, h⟩ := bindE h
        simp -implicitDefEqProofs only [go_sem, seval, f1, f9, f10, hq]
        refine callV_eq (portolanref04_within_ok γ _  f23) rfl rfl ?_
        simp -implicitDefEqProofs only [go_sem, seval, f1, f9, f10, hq]
        obtain rfl := sI h
        refine X_ret ?_
        simp -implicitDefEqProofs only [go_sem, seval, f1, f9, f10, hq]
        exact Rt.mv0 (BaseR.refl hob) (by simp) (vS)
      ·rw [if_pos f9] at h
       refine X_cond (lx_ok γ) ?_
       simp -implicitDefEqProofs only [go_sem, seval, f1, f9, hq]
       refine X_seq ?_
       refine X_drawn (lx_ok γ) [[], [0], [], [2], [2, 3], [2, 3, 4], [0, 1, 2, 3, 4, 5], [0, 1, 2, 3, 4, 5, 6], [0, 1, 2, 3, 4, 5, 6, 7], [0, 1, 2, 3, 4, 5, 6, 7, 8], [0, 1, 2, 3, 4, 5, 6, 7, 8, 9], [0, 1, 2, 3, 4, 5, 6, 7], [0, 1, 2, 3, 4, 5, 6, 7, 11], [0, 1, 2, 3, 4, 5, 6, 7], [0, 1, 2, 3, 4, 5, 6, 7, 13], [0, 1, 2, 3, 4, 5, 6, 7, 11, 12, 13, 14], [0, 1, 2, 3, 4, 5, 6, 7, 11, 12, 13, 14, 15], [0, 1, 2, 3, 4, 5, 6, 7, 11, 12, 13, 14, 15, 16], [0, 1, 2, 3, 4, 5, 6, 7, 8, 9, 10, 11, 12, 13, 14, 15, 16, 17], [0, 1, 2, 3, 4, 5, 6, 7, 8, 9, 10, 11, 12, 13, 14, 15, 16, 17, 18], [0, 1, 2, 3, 4, 5, 6, 7, 8, 9, 10, 11, 12, 13, 14, 15, 16, 17, 18, 19]] (fun i => match i with | _ => false) (by kernel_rfl) ?_
       obtain ⟨x20, f24, h⟩ := bindE h
       try simp -implicitDefEqProofs only [go_sem, seval, f1, f9, hq, cmpr, List.getD_cons_zero, List.getD_cons_succ, List.contains_cons, List.contains_nil, Nat.reduceBEq, Bool.false_or, Bool.or_false, Bool.true_or, Bool.or_true, beq_self_eq_true]
       refine callV_eq (portolanref04_within_ok γ _  f24) rfl rfl ?_
       cases f25 : x20
       ·rw [if_neg (nF f25)] at h
        try simp -implicitDefEqProofs only [go_sem, seval, f1, f9, f25, hq, cmpr, List.getD_cons_zero, List.getD_cons_succ, List.contains_cons, List.contains_nil, Nat.reduceBEq, Bool.false_or, Bool.or_false, Bool.true_or, Bool.or_true, beq_self_eq_true]
        obtain rfl := sI h
        refine X_ret ?_
        simp -implicitDefEqProofs only [go_sem, seval, f1, f9, f25, hq]
        exact Rt.mv0 (BaseR.refl hob) (by simp) (vS)
       ·rw [if_pos f25] at h
        obtain ⟨x21, f26, h⟩ := bindE h
        obtain ⟨f27, f28, f29⟩ := ixL_some f26
        try simp only [Int.toNat_natCast, Int.reduceToNat] at f29
        try simp -implicitDefEqProofs only [go_sem, seval, f1, f9, f25, hq, f27, f28, f29, cmpr, List.getD_cons_zero, List.getD_cons_succ, List.contains_cons, List.contains_nil, Nat.reduceBEq, Bool.false_or, Bool.or_false, Bool.true_or, Bool.or_true, beq_self_eq_true]
        obtain rfl := sI h
        refine X_ret ?_
        simp -implicitDefEqProofs only [go_sem, seval, f1, f9, f25, hq, f27, f28, f29]
        exact Rt.mv0 (BaseR.refl hob) (by simp) (vS)
     ·refine X_block ?_
      obtain ⟨lr2, hl2, hk2, hr2⟩ := aft2 h
      refine X_forN hl2 (fun (i2 : Nat) (s : Unit) as1 ob1 => [(3, V.ref ob.length 0), (5, V.ref (ob.length + 1) 0), (7, V.ref (ob.length + 2) 0), (12, V.row (ob.length + 3) 0 0 (List.length x8)), (13, vint .i64 (i2 : Int))] = as1 ∧ ob ++ [some (O.box [v0_0]), some (O.box [vint .i64 a2.Op, vint .i64 a2.D, vint .i64 a2.A, vint .i64 a2.B, vint .i64 a2.N, vint .i64 a2.M, v2_6]), some (O.box [V.tr (.sl 1 false (List.map (eI .i64) x3.Kinds)), V.tr (.sl 1 false (List.map (eI .i64) x3.Base)), vint .i64 x3.Params, vint .i64 x3.Result, V.tr (.sl 1 false (List.map e_Block x3.Blocks))]), some (O.row 1 0 (List.map (eI .i64) x8))] = ob1) ⟨_, _, ?_, rfl, rfl⟩ ?_ ?_
      ·exact To.mv [(0, 0), (1, 0), (2, 0), (3, 0)] (BaseR.refl hob) (by simp) (by decide) (by simp only [go_sem]; exact ⟨VM.refA (j := 0) (t := 0) rfl, VM.refA (j := 1) (t := 1) rfl, VM.refA (j := 2) (t := 2) rfl, VM.rowL (j := 3) (t := 3) rfl (by first | rfl | simp | simp_all | omega), VM.eqv (by simp) (by simp)⟩) ⟨⟨_, rfl, OM.box _ _ ⟨VM.self (by simpa using Bd.of_rdK hv0_0), trivial⟩⟩, ⟨_, rfl, OM.box _ _ ⟨vS, vS, vS, vS, vS, vS, VM.self (by simpa using Bd.of_rdK hv2_6), trivial⟩⟩, ⟨_, rfl, OM.box _ _ ⟨vS, vS, vS, vS, vS, trivial⟩⟩, ⟨_, rfl, OM.row' (by first | rfl | simp_all)⟩, trivial⟩
      ·rintro i2 _ o2 hi2 hw2 h ho2 as1 ob1 ⟨rfl, rfl⟩
       rw [portolanref04_Ins.b2] at h
       refine X_seq ?_
       refine X_sr (lx_ok γ) ?_
       simp -implicitDefEqProofs only [go_sem, seval, f1, hi2, hq]
       refine X_cond (lx_ok γ) ?_
       simp -implicitDefEqProofs only [go_sem, seval, f1, hi2, hq]
       refine X_skip ?_
       try simp -implicitDefEqProofs only [go_sem]
       refine X_seq ?_
       refine X_block ?_
       refine X_seq ?_
       refine X_drawn (lx_ok γ) [[], [], [0, 1], [0, 1, 2], [], [4], [4, 5], [4, 5, 6], [0, 1, 2, 3, 4, 5, 6, 7], [0, 1, 2, 3, 4, 5, 6, 7, 8]] (fun i => match i with | _ => false) (by kernel_rfl) ?_
       obtain ⟨x22, f30, h⟩ := bindE h
       obtain ⟨f31, f32⟩ := ixL_nat f30
       have f33 : (0 : Int) ≤ (i2 : Int) := Int.natCast_nonneg _
       obtain ⟨x23, f34, h⟩ := bindE h
       try simp -implicitDefEqProofs only [go_sem, seval, f1, hi2, hq, f31, f32, f33, cmpr, List.getD_cons_zero, List.getD_cons_succ, List.contains_cons, List.contains_nil, Nat.reduceBEq, Bool.false_or, Bool.or_false, Bool.true_or, Bool.or_true, beq_self_eq_true]
       refine callV_eq (portolanref04_within_ok γ _  f34) rfl rfl ?_
       try simp -implicitDefEqProofs only [go_sem, seval, f1, hi2, hq, f31, f32, f33, cmpr, List.getD_cons_zero, List.getD_cons_succ, List.contains_cons, List.contains_nil, Nat.reduceBEq, Bool.false_or, Bool.or_false, Bool.true_or, Bool.or_true, beq_self_eq_true]
       cases f35 : x23
       ·rw [if_neg (nF f35)] at h
        refine X_cond (lx_ok γ) ?_
        simp -implicitDefEqProofs only [go_sem, seval, f1, hi2, f35, hq, f31, f32, f33]
        refine X_sr (lx_ok γ) ?_
        simp -implicitDefEqProofs only [go_sem, seval, f1, hi2, f35, hq]
        obtain rfl := sI h
        have h := hr2 _ (ho2 (fun _ hs => nomatch hs))
        obtain rfl := sI h
        refine X_ret ?_
        simp -implicitDefEqProofs only [go_sem, seval, f1, hi2, f35, hq]
        exact Rt.mv0 (BaseR.refl hob) (by simp) (vS)
       ·rw [if_pos f35] at h
        refine X_cond (lx_ok γ) ?_
        simp -implicitDefEqProofs only [go_sem, seval, f1, hi2, f35, hq, f31, f32, f33]
        refine X_skip ?_
        try simp -implicitDefEqProofs only [go_sem]
        refine X_reg (lx_ok γ) ?_
        obtain rfl := sI h
        simp -implicitDefEqProofs only [go_sem, seval, f1, hi2, f35, hq]
        refine kR_in rfl ?_ ⟨rfl, rfl⟩
        exact To.mv [(0, 0), (1, 0), (2, 0), (3, 0)] (BaseR.refl hob) (by simp) (by decide) (by simp only [go_sem]; exact ⟨VM.refA (j := 0) (t := 0) rfl, VM.refA (j := 1) (t := 1) rfl, VM.refA (j := 2) (t := 2) rfl, VM.rowL (j := 3) (t := 3) rfl (by first | rfl | simp | simp_all | omega), VM.eqv (by rw [hw2]) (by simp)⟩) ⟨⟨_, rfl, OM.box _ _ ⟨VM.self (by simpa using Bd.of_rdK hv0_0), trivial⟩⟩, ⟨_, rfl, OM.box _ _ ⟨vS, vS, vS, vS, vS, vS, VM.self (by simpa using Bd.of_rdK hv2_6), trivial⟩⟩, ⟨_, rfl, OM.box _ _ ⟨vS, vS, vS, vS, vS, trivial⟩⟩, ⟨_, rfl, OM.row' (by first | rfl | simp_all)⟩, trivial⟩
      ·rintro i2 _ hi2 hn2 as1 ob1 ⟨rfl, rfl⟩
       refine X_seq ?_
       refine X_sr (lx_ok γ) ?_
       simp -implicitDefEqProofs only [go_sem, seval, f1, hi2, hq]
       refine X_cond (lx_ok γ) ?_
       simp -implicitDefEqProofs only [go_sem, seval, f1, hi2, hq]
       have h := hk2 _ (.inl hn2)
       refine X_exit ?_
       try simp -implicitDefEqProofs only [go_sem, ↓reduceIte, Nat.reduceEqDiff, reduceCtorEq]
       refine kJ_in ?_ ⟨h, rfl, rfl⟩
       exact To.mv [(0, 0), (1, 0)] (BaseR.refl hob) (by simp) (by decide) (by simp only [go_sem]; exact ⟨VM.refA (j := 0) (t := 0) rfl, VM.refA (j := 1) (t := 1) rfl⟩) ⟨⟨_, rfl, OM.box _ _ ⟨VM.self (by simpa using Bd.of_rdK hv0_0), trivial⟩⟩, ⟨_, rfl, OM.box _ _ ⟨vS, vS, vS, vS, vS, vS, VM.self (by simpa using Bd.of_rdK hv2_6), trivial⟩⟩, trivial⟩
    ·refine X_block ?_
     obtain ⟨lr1, hl1, hk1, hr1⟩ := aft2 h
     refine X_forN hl1 (fun (i1 : Nat) (s : Unit) as1 ob1 => [(3, V.ref ob.length 0), (5, V.ref (ob.length + 1) 0), (7, V.ref (ob.length + 2) 0), (8, V.row (ob.length + 3) 0 0 (List.length x6)), (11, vint .i64 (i1 : Int))] = as1 ∧ ob ++ [some (O.box [v0_0]), some (O.box [vint .i64 a2.Op, vint .i64 a2.D, vint .i64 a2.A, vint .i64 a2.B, vint .i64 a2.N, vint .i64 a2.M, v2_6]), some (O.box [V.tr (.sl 1 false (List.map (eI .i64) x3.Kinds)), V.tr (.sl 1 false (List.map (eI .i64) x3.Base)), vint .i64 x3.Params, vint .i64 x3.Result, V.tr (.sl 1 false (List.map e_Block x3.Blocks))]), some (O.row 1 0 (List.map (eI .i64) x6))] = ob1) ⟨_, _, ?_, rfl, rfl⟩ ?_ ?_
     ·exact To.mv [(0, 0), (1, 0), (2, 0), (3, 0)] (BaseR.refl hob) (by simp) (by decide) (by simp only [go_sem]; exact ⟨VM.refA (j := 0) (t := 0) rfl, VM.refA (j := 1) (t := 1) rfl, VM.refA (j := 2) (t := 2) rfl, VM.rowL (j := 3) (t := 3) rfl (by first | rfl | simp | simp_all | omega), VM.eqv (by simp) (by simp)⟩) ⟨⟨_, rfl, OM.box _ _ ⟨VM.self (by simpa using Bd.of_rdK hv0_0), trivial⟩⟩, ⟨_, rfl, OM.box _ _ ⟨vS, vS, vS, vS, vS, vS, VM.self (by simpa using Bd.of_rdK hv2_6), trivial⟩⟩, ⟨_, rfl, OM.box _ _ ⟨vS, vS, vS, vS, vS, trivial⟩⟩, ⟨_, rfl, OM.row' (by first | rfl | simp_all)⟩, trivial⟩
     ·rintro i1 _ o1 hi1 hw1 h ho1 as1 ob1 ⟨rfl, rfl⟩
      rw [portolanref04_Ins.b1] at h
      refine X_seq ?_
      refine X_sr (lx_ok γ) ?_
      simp -implicitDefEqProofs only [go_sem, seval, f1, hi1, hq]
      refine X_cond (lx_ok γ) ?_
      simp -implicitDefEqProofs only [go_sem, seval, f1, hi1, hq]
      refine X_skip ?_
      try simp -implicitDefEqProofs only [go_sem]
      refine X_seq ?_
      refine X_block ?_
      refine X_seq ?_
      refine X_drawn (lx_ok γ) [[], [], [0, 1], [0, 1, 2], [], [4], [4, 5], [4, 5, 6], [0, 1, 2, 3, 4, 5, 6, 7], [0, 1, 2, 3, 4, 5, 6, 7, 8]] (fun i => match i with | _ => false) (by kernel_rfl) ?_
      obtain ⟨x24, f36, h⟩ := bindE h
      obtain ⟨f37, f38⟩ := ixL_nat f36
      have f39 : (0 : Int) ≤ (i1 : Int) := Int.natCast_nonneg _
      obtain ⟨x25, f40, h⟩ := bindE h
      try simp -implicitDefEqProofs only [go_sem, seval, f1, hi1, hq, f37, f38, f39, cmpr, List.getD_cons_zero, List.getD_cons_succ, List.contains_cons, List.contains_nil, Nat.reduceBEq, Bool.false_or, Bool.or_false, Bool.true_or, Bool.or_true, beq_self_eq_true]
      refine callV_eq (portolanref04_within_ok γ _  f40) rfl rfl ?_
      try simp -implicitDefEqProofs only [go_sem, seval, f1, hi1, hq, f37, f38, f39, cmpr, List.getD_cons_zero, List.getD_cons_succ, List.contains_cons, List.contains_nil, Nat.reduceBEq, Bool.false_or, Bool.or_false, Bool.true_or, Bool.or_true, beq_self_eq_true]
      cases f41 : x25
      ·rw [if_neg (nF f41)] at h
       refine X_cond (lx_ok γ) ?_
       simp -implicitDefEqProofs only [go_sem, seval, f1, hi1, f41, hq, f37, f38, f39]
       refine X_sr (lx_ok γ) ?_
       simp -implicitDefEqProofs only [go_sem, seval, f1, hi1, f41, hq]
       obtain rfl := sI h
       have h := hr1 _ (ho1 (fun _ hs => nomatch hs))
       obtain rfl := sI h
       refine X_ret ?_
       simp -implicitDefEqProofs only [go_sem, seval, f1, hi1, f41, hq]
       exact Rt.mv0 (BaseR.refl hob) (by simp) (vS)
      ·rw [if_pos f41] at h
       refine X_cond (lx_ok γ) ?_
       simp -implicitDefEqProofs only [go_sem, seval, f1, hi1, f41, hq, f37, f38, f39]
       refine X_skip ?_
       try simp -implicitDefEqProofs only [go_sem]
       refine X_reg (lx_ok γ) ?_
       obtain rfl := sI h
       simp -implicitDefEqProofs only [go_sem, seval, f1, hi1, f41, hq]
       refine kR_in rfl ?_ ⟨rfl, rfl⟩
       exact To.mv [(0, 0), (1, 0), (2, 0), (3, 0)] (BaseR.refl hob) (by simp) (by decide) (by simp only [go_sem]; exact ⟨VM.refA (j := 0) (t := 0) rfl, VM.refA (j := 1) (t := 1) rfl, VM.refA (j := 2) (t := 2) rfl, VM.rowL (j := 3) (t := 3) rfl (by first | rfl | simp | simp_all | omega), VM.eqv (by rw [hw1]) (by simp)⟩) ⟨⟨_, rfl, OM.box _ _ ⟨VM.self (by simpa using Bd.of_rdK hv0_0), trivial⟩⟩, ⟨_, rfl, OM.box _ _ ⟨vS, vS, vS, vS, vS, vS, VM.self (by simpa using Bd.of_rdK hv2_6), trivial⟩⟩, ⟨_, rfl, OM.box _ _ ⟨vS, vS, vS, vS, vS, trivial⟩⟩, ⟨_, rfl, OM.row' (by first | rfl | simp_all)⟩, trivial⟩
     ·rintro i1 _ hi1 hn1 as1 ob1 ⟨rfl, rfl⟩
      refine X_seq ?_
      refine X_sr (lx_ok γ) ?_
      simp -implicitDefEqProofs only [go_sem, seval, f1, hi1, hq]
      refine X_cond (lx_ok γ) ?_
      simp -implicitDefEqProofs only [go_sem, seval, f1, hi1, hq]
      have h := hk1 _ (.inl hn1)
      refine X_exit ?_
      try simp -implicitDefEqProofs only [go_sem, ↓reduceIte, Nat.reduceEqDiff, reduceCtorEq]
      refine kJ_in ?_ ⟨h, rfl, rfl⟩
      exact To.mv [(0, 0), (1, 0), (2, 0)] (BaseR.refl hob) (by simp) (by decide) (by simp only [go_sem]; exact ⟨VM.refA (j := 0) (t := 0) rfl, VM.refA (j := 1) (t := 1) rfl, VM.refA (j := 2) (t := 2) rfl⟩) ⟨⟨_, rfl, OM.box _ _ ⟨VM.self (by simpa using Bd.of_rdK hv0_0), trivial⟩⟩, ⟨_, rfl, OM.box _ _ ⟨vS, vS, vS, vS, vS, vS, VM.self (by simpa using Bd.of_rdK hv2_6), trivial⟩⟩, ⟨_, rfl, OM.box _ _ ⟨vS, vS, vS, vS, vS, trivial⟩⟩, trivial⟩
   ·refine X_sr (lx_ok γ) ?_
    simp -implicitDefEqProofs only [go_sem, seval, f1, hq]
    cases f42 : x5.2
    ·rw [if_neg (nF f42)] at h
     refine X_cond (lx_ok γ) ?_
     simp -implicitDefEqProofs only [go_sem, seval, f1, f42, hq]
     refine X_skip ?_
     try simp -implicitDefEqProofs only [go_sem]
     refine kJ_in ?_ ⟨x4, h, rfl, rfl⟩
     exact To.mv [(0, 0), (1, 0), (2, 0), (3, 0)] (BaseR.refl hob) (by simp) (by decide) (by simp only [go_sem]; exact ⟨VM.refA (j := 0) (t := 0) rfl, VM.refA (j := 1) (t := 1) rfl, VM.refA (j := 2) (t := 2) rfl, VM.rowL (j := 3) (t := 3) rfl (by first | rfl | simp | simp_all | omega)⟩) ⟨⟨_, rfl, OM.box _ _ ⟨VM.self (by simpa using Bd.of_rdK hv0_0), trivial⟩⟩, ⟨_, rfl, OM.box _ _ ⟨vS, vS, vS, vS, vS, vS, VM.self (by simpa using Bd.of_rdK hv2_6), trivial⟩⟩, ⟨_, rfl, OM.box _ _ ⟨vS, vS, vS, vS, vS, trivial⟩⟩, ⟨_, rfl, OM.row' (by first | rfl | simp_all)⟩, trivial⟩
    ·rw [if_pos f42] at h
     refine X_cond (lx_ok γ) ?_
     simp -implicitDefEqProofs only [go_sem, seval, f1, f42, hq]
     refine X_reg (lx_ok γ) ?_
     obtain ⟨x26, f43, h⟩ := bindE h
     have f44 : List.length x26 * 8 ≤ 140737488355328 := by have := (appL_some f43).1; rw [(appL_some f43).2]; simpa using this
     have f45 : List.map (eI .i64) x4 ++ [[.lit (.int .i64 x5.1)]] = List.map (eI .i64) x26 := by rw [(appL_some f43).2]; simp [eB, eI, eS]
     have f46 : List.length x4 + 1 = List.length x26 := by rw [(appL_some f43).2]; simp
     simp -implicitDefEqProofs only [go_sem, seval, f1, f42, hq, f44, f45, f46]
     refine kJ_in ?_ ⟨x26, h, rfl, rfl⟩
     exact To.mv [(0, 0), (1, 0), (2, 0), (3, 1)] (BaseR.refl hob) (by simp) (by decide) (by simp only [go_sem]; exact ⟨VM.refA (j := 0) (t := 0) rfl, VM.refA (j := 1) (t := 1) rfl, VM.refA (j := 2) (t := 2) rfl, VM.rowL (j := 3) (t := 3) rfl (by first | rfl | simp | simp_all | omega)⟩) ⟨⟨_, rfl, OM.box _ _ ⟨VM.self (by simpa using Bd.of_rdK hv0_0), trivial⟩⟩, ⟨_, rfl, OM.box _ _ ⟨vS, vS, vS, vS, vS, vS, VM.self (by simpa using Bd.of_rdK hv2_6), trivial⟩⟩, ⟨_, rfl, OM.box _ _ ⟨vS, vS, vS, vS, vS, trivial⟩⟩, ⟨_, rfl, OM.row' (by first | rfl | simp_all)⟩, trivial⟩
  ·rw [if_pos f1] at h
   refine X_cond (lx_ok γ) ?_
   simp -implicitDefEqProofs only [go_sem, seval, f1, hq]
   refine X_sr (lx_ok γ) ?_
   simp -implicitDefEqProofs only [go_sem, seval, f1, hq]
   obtain rfl := sI h
   refine X_ret ?_
   simp -implicitDefEqProofs only [go_sem, seval, f1, hq]
   exact Rt.mv0 (BaseR.refl hob) (by simp) (vS)
 ·refine X_reg (lx_ok γ) ?_
  obtain ⟨x27, f47, h⟩ := bindE h
  simp -implicitDefEqProofs only [go_sem, seval, hq]
  refine callV_eq (portolanref04_within_ok γ _  f47) rfl rfl ?_
  cases f48 : x27
  ·rw [if_neg (nF f48)] at h
   simp -implicitDefEqProofs only [go_sem, seval, f48, hq]
   refine kJ_in ?_ ⟨true, h, rfl, rfl⟩
   exact To.mv [(0, 0), (1, 0)] (BaseR.refl hob) (by simp) (by decide) (by simp only [go_sem]; exact ⟨vS, VM.refA (j := 0) (t := 0) rfl, VM.refA (j := 1) (t := 1) rfl, vS⟩) ⟨⟨_, rfl, OM.box _ _ ⟨VM.self (by simpa using Bd.of_rdK hv0_0), trivial⟩⟩, ⟨_, rfl, OM.box _ _ ⟨vS, vS, vS, vS, vS, vS, VM.self (by simpa using Bd.of_rdK hv2_6), trivial⟩⟩, trivial⟩
  ·rw [if_pos f48] at h
   obtain ⟨x28, f49, h⟩ := bindE h
   simp -implicitDefEqProofs only [go_sem, seval, f48, hq]
   refine callV_eq (portolanref03_Parts_ok γ _  f49) rfl rfl ?_
   cases f50 : (ByteArray.toList x28 == ByteArray.toList ({ data := #[] } : ByteArray))
   ·rw [if_neg (nF f50)] at h
    obtain ⟨x29, f51, h⟩ := bindE h
    simp -implicitDefEqProofs only [go_sem, seval, f48, f50, hq]
    refine callV_eq (portolanref04_bare_ok γ _ (by first | exact rdK_app hv2_6 | exact hv2_6) f51) rfl rfl ?_
    simp -implicitDefEqProofs only [go_sem, seval, f48, f50, hq]
    refine kJ_in ?_ ⟨(!x29), h, rfl, rfl⟩
    exact To.mv [(0, 0), (1, 0)] (BaseR.refl hob) (by simp) (by decide) (by simp only [go_sem]; exact ⟨vS, VM.refA (j := 0) (t := 0) rfl, VM.refA (j := 1) (t := 1) rfl, vS⟩) ⟨⟨_, rfl, OM.box _ _ ⟨VM.self (by simpa using Bd.of_rdK hv0_0), trivial⟩⟩, ⟨_, rfl, OM.box _ _ ⟨vS, vS, vS, vS, vS, vS, VM.self (by simpa using Bd.of_rdK hv2_6), trivial⟩⟩, trivial⟩
   ·rw [if_pos f50] at h
    simp -implicitDefEqProofs only [go_sem, seval, f48, f50, hq]
    refine kJ_in ?_ ⟨true, h, rfl, rfl⟩
    exact To.mv [(0, 0), (1, 0)] (BaseR.refl hob) (by simp) (by decide) (by simp only [go_sem]; exact ⟨vS, VM.refA (j := 0) (t := 0) rfl, VM.refA (j := 1) (t := 1) rfl, vS⟩) ⟨⟨_, rfl, OM.box _ _ ⟨VM.self (by simpa using Bd.of_rdK hv0_0), trivial⟩⟩, ⟨_, rfl, OM.box _ _ ⟨vS, vS, vS, vS, vS, vS, VM.self (by simpa using Bd.of_rdK hv2_6), trivial⟩⟩, trivial⟩
end Go.Pf
end
section
set_option maxRecDepth 100000
namespace Go.Pf
open Go Go.Ab Go.Pp Go.Proofs Go.Proofs.S04
attribute [local go_sem] Lxτ Lxγ gam0 Int.toNat_natCast tau3 tau28 eI eB eS e_Ins e_Block e_Func e_Prog e_code_writer e_code_reader e_Edge
set_option maxHeartbeats 1000000 in
theorem portolanref01_Ints_ok (γ : GT) (ob : OT) {a0 : List Int} {v0 : V} {a1 : List Int} {v1 : V} (hv0 : rdK (getO ob) 1 v0 = some (List.map (eI .i64) a0)) (hv1 : rdK (getO ob) 1 v1 = some (List.map (eI .i64) a1)) {r : Bool} (h : portolanref01_Ints a0 a1 = some r) :
  Valid (Lx γ) 21 [v0, v1] ob (vbool r) ob := by
 refine valid_X (lx_ok γ) (fn := Tryd.f21) (rs := [.tmp 4]) Tryd.func21 (by kernel_rfl) rfl rfl Tryd.ntmps21 rfl (by simp) fun hb hob => ?_
 have hq := And.intro (rd4 hv0) (rd4 hv1)
 rw [portolanref01_Ints] at h
 refine X_sr (lx_ok γ) ?_
 simp -implicitDefEqProofs only [go_sem, seval, hq]
 refine X_seq ?_
 refine X_sr (lx_ok γ) ?_
 simp -implicitDefEqProofs only [go_sem, seval, hq]
 cases f1 : ((List.length a0 : Int) != (List.length a1 : Int))
 ·rw [if_neg (nF f1)] at h
  refine X_cond (lx_ok γ) ?_
  simp -implicitDefEqProofs only [go_sem, seval, f1, hq]
  refine X_skip ?_
  try simp -implicitDefEqProofs only [go_sem]
  refine X_seq ?_
  refine X_sr (lx_ok γ) ?_
  simp -implicitDefEqProofs only [go_sem, seval, f1, hq]
  refine X_jq (J := fun as1 ob1 => portolanref01_Ints.k1 = some r ∧ [] = as1 ∧ ob = ob1) ?_ ?_
  ·rintro as1 ob1 ⟨h, rfl, rfl⟩
   rw [portolanref01_Ints.k1] at h
   simp -implicitDefEqProofs only [go_sem, seval, f1, hq]
   refine X_sr (lx_ok γ) ?_
   simp -implicitDefEqProofs only [go_sem, seval, f1, hq]
   obtain rfl := sI h
   refine X_ret ?_
   simp -implicitDefEqProofs only [go_sem, seval, f1, hq]
   exact Rt.mv1 (BaseR.refl hob) (by simp) (vS)
  ·refine X_block ?_
   obtain ⟨lr1, hl1, hk1, hr1⟩ := aft2 h
   refine X_forN hl1 (fun (i1 : Nat) (s : Unit) as1 ob1 => [(0, v0), (1, v1), (5, vint .i64 (i1 : Int))] = as1 ∧ ob = ob1) ⟨_, _, ?_, rfl, rfl⟩ ?_ ?_
   ·exact To.mv1 (BaseR.refl hob) (by simp) (by simp only [go_sem]; exact ⟨VM.self (by simpa using Bd.of_rdK hv0), VM.self (by simpa using Bd.of_rdK hv1), VM.eqv (by simp) (by simp)⟩)
   ·rintro i1 _ o1 hi1 hw1 h ho1 as1 ob1 ⟨rfl, rfl⟩
    rw [portolanref01_Ints.b1] at h
    refine X_seq ?_
    refine X_sr (lx_ok γ) ?_
    simp -implicitDefEqProofs only [go_sem, seval, f1, hi1, hq]
    refine X_cond (lx_ok γ) ?_
    simp -implicitDefEqProofs only [go_sem, seval, f1, hi1, hq]
    refine X_skip ?_
    try simp -implicitDefEqProofs only [go_sem]
    refine X_seq ?_
    refine X_block ?_
    refine X_seq ?_
    refine X_drawn (lx_ok γ) [[], [], [0, 1], [0, 1, 2], [], [], [4, 5], [4, 5, 6], [0, 1, 2, 3, 4, 5, 6, 7]] (fun i => match i with | _ => false) (by kernel_rfl) ?_
    obtain ⟨x2, f2, h⟩ := bindE h
    obtain ⟨f3, f4⟩ := ixL_nat f2
    have f5 : (0 : Int) ≤ (i1 : Int) := Int.natCast_nonneg _
    obtain ⟨x3, f6, h⟩ := bindE h
    obtain ⟨f7, f8⟩ := ixL_nat f6
    have f9 : (0 : Int) ≤ (i1 : Int) := Int.natCast_nonneg _
    try simp -implicitDefEqProofs only [go_sem, seval, f1, hi1, hq, f3, f4, f5, f7, f8, f9, cmpr, List.getD_cons_zero, List.getD_cons_succ, List.contains_cons, List.contains_nil, Nat.reduceBEq, Bool.false_or, Bool.or_false, Bool.true_or, Bool.or_true, beq_self_eq_true]
    cases f10 : (x2 != x3)
    ·rw [if_neg (nF f10)] at h
     refine X_cond (lx_ok γ) ?_
     simp -implicitDefEqProofs only [go_sem, seval, f1, hi1, f10, hq, f3, f4, f5, f7, f8, f9]
     refine X_skip ?_
     try simp -implicitDefEqProofs only [go_sem]
     refine X_reg (lx_ok γ) ?_
     obtain rfl := sI h
     simp -implicitDefEqProofs only [go_sem, seval, f1, hi1, f10, hq]
     refine kR_in rfl ?_ ⟨rfl, rfl⟩
     exact To.mv1 (BaseR.refl hob) (by simp) (by simp only [go_sem]; exact ⟨VM.self (by simpa using Bd.of_rdK hv0), VM.self (by simpa using Bd.of_rdK hv1), VM.eqv (by rw [hw1]) (by simp)⟩)
    ·rw [if_pos f10] at h
     refine X_cond (lx_ok γ) ?_
     simp -implicitDefEqProofs only [go_sem, seval, f1, hi1, f10, hq, f3, f4, f5, f7, f8, f9]
     refine X_sr (lx_ok γ) ?_
     simp -implicitDefEqProofs only [go_sem, seval, f1, hi1, f10, hq]
     obtain rfl := sI h
     have h := hr1 _ (ho1 (fun _ hs => nomatch hs))
     obtain rfl := sI h
     refine X_ret ?_
     simp -implicitDefEqProofs only [go_sem, seval, f1, hi1, f10, hq]
     exact Rt.mv1 (BaseR.refl hob) (by simp) (vS)
   ·rintro i1 _ hi1 hn1 as1 ob1 ⟨rfl, rfl⟩
    refine X_seq ?_
    refine X_sr (lx_ok γ) ?_
    simp -implicitDefEqProofs only [go_sem, seval, f1, hi1, hq]
    refine X_cond (lx_ok γ) ?_
    simp -implicitDefEqProofs only [go_sem, seval, f1, hi1, hq]
    have h := hk1 _ (.inl hn1)
    refine X_exit ?_
    try simp -implicitDefEqProofs only [go_sem, ↓reduceIte, Nat.reduceEqDiff, reduceCtorEq]
    refine kJ_in ?_ ⟨h, rfl, rfl⟩
    exact To.mv1 (BaseR.refl hob) (by simp) trivial
 ·rw [if_pos f1] at h
  refine X_cond (lx_ok γ) ?_
  simp -implicitDefEqProofs only [go_sem, seval, f1, hq]
  refine X_sr (lx_ok γ) ?_
  simp -implicitDefEqProofs only [go_sem, seval, f1, hq]
  obtain rfl := sI h
  refine X_ret ?_
  simp -implicitDefEqProofs only [go_sem, seval, f1, hq]
  exact Rt.mv1 (BaseR.refl hob) (by simp) (vS)
end Go.Pf
end
section
set_option maxRecDepth 100000
namespace Go.Pf
open Go Go.Ab Go.Pp Go.Proofs Go.Proofs.S04
attribute [local go_sem] Lxτ Lxγ gam0 Int.toNat_natCast List.append_eq List.cons_append List.nil_append tau3 tau4 tau22 tau24 tau28 tau29 tau31 tau35 tau42 tau44 eI eB eS e_Ins e_Block e_Func e_Prog e_code_writer e_code_reader e_Edge
set_option maxHeartbeats 1000000 in
theorem portolanlaw04_ShapeIns_ok (γ : GT) (ob : OT) {a0 : Prog} {v0_0 : V} {a1 : Int} {a2 : Ins} {v2_6 : V} (hv0_0 : rdK (getO ob) 5 v0_0 = some (List.map e_Func a0.Funcs)) (hv2_6 : rdK (getO ob) 1 v2_6 = some (List.map (eI .i64) a2.Args)) {r : Bool} (h : portolanlaw04_ShapeIns a0 a1 a2 = some r) :
  Valid (Lx γ) 4 [V.agg [v0_0], vint .i64 a1, V.agg [vint .i64 a2.Op, vint .i64 a2.D, vint .i64 a2.A, vint .i64 a2.B, vint .i64 a2.N, vint .i64 a2.M, v2_6]] ob (vbool r) ob := by
 refine valid_X (lx_ok γ) (fn := Tryd.f4) (rs := [.tmp 6]) Tryd.func4 (by kernel_rfl) rfl rfl Tryd.ntmps4 rfl (by simp) fun hb hob => ?_
 have hq := And.intro (rd4 hv0_0) (rd4 hv2_6)
 rw [portolanlaw04_ShapeIns] at h
 refine X_sr (lx_ok γ) ?_
 simp -implicitDefEqProofs only [go_sem, seval, hq]
 refine X_seq ?_
 refine X_sr (lx_ok γ) ?_
 obtain ⟨x1, f1, h⟩ := bindE h
 simp -implicitDefEqProofs only [go_sem, seval, hq]
 refine callV_eq (portolanlaw04_alive_ok γ _  f1) rfl rfl ?_
 simp -implicitDefEqProofs only [go_sem, seval, hq]
 cases f2 : x1
 ·rw [if_neg (nF f2)] at h
  refine X_cond (lx_ok γ) ?_
  simp -implicitDefEqProofs only [go_sem, seval, f2, hq]
  refine X_sr (lx_ok γ) ?_
  simp -implicitDefEqProofs only [go_sem, seval, f2, hq]
  obtain rfl := sI h
  refine X_ret ?_
  simp -implicitDefEqProofs only [go_sem, seval, f2, hq]
  exact Rt.mv0 (BaseR.refl hob) (by simp) (vS)
 ·rw [if_pos f2] at h
  refine X_cond (lx_ok γ) ?_
  simp -implicitDefEqProofs only [go_sem, seval, f2, hq]
  refine X_skip ?_
  try simp -implicitDefEqProofs only [go_sem]
  refine X_seq ?_
  refine X_seq ?_
  refine X_jq (J := fun as1 ob1 => ∃ (x3 : Bool), portolanlaw04_ShapeIns.j1 a0 a1 a2 x3 = some r ∧ [(1, vint .i64 a1), (3, V.ref ob.length 0), (5, V.ref (ob.length + 1) 0), (20, vbool x3)] = as1 ∧ ob ++ [some (O.box [v0_0]), some (O.box [vint .i64 a2.Op, vint .i64 a2.D, vint .i64 a2.A, vint .i64 a2.B, vint .i64 a2.N, vint .i64 a2.M, v2_6])] = ob1) ?_ ?_
  ·rintro as1 ob1 ⟨x3, h, rfl, rfl⟩
   rw [portolanlaw04_ShapeIns.j1] at h
   simp -implicitDefEqProofs only [go_sem, seval, f2, hq]
   cases f3 : x3
   ·rw [if_neg (nF f3)] at h
    refine X_cond (lx_ok γ) ?_
    simp -implicitDefEqProofs only [go_sem, seval, f2, f3, hq]
    refine X_skip ?_
    try simp -implicitDefEqProofs only [go_sem]
    refine X_sr (lx_ok γ) ?_
    obtain ⟨x4, f4, h⟩ := bindE h
    simp -implicitDefEqProofs only [go_sem, seval, f2, f3, hq]
    refine callV_eq (shape_Sets_ok γ _ (by first | exact rdK_app hv2_6 | exact hv2_6) f4) rfl rfl ?_
    simp -implicitDefEqProofs only [go_sem, seval, f2, f3, hq]
    refine X_sr (lx_ok γ) ?_
    obtain ⟨x5, f5, h⟩ := bindE h
    simp -implicitDefEqProofs only [go_sem, seval, f2, f3, hq]
    refine callV_eq (portolanref04_Sets_ok γ _ (by first | exact rdK_app hv2_6 | exact hv2_6) f5) rfl rfl ?_
    simp -implicitDefEqProofs only [go_sem, seval, f2, f3, hq]
    refine X_seq ?_
    refine X_drawn (lx_ok γ) [[], [], [], [0, 1, 2], [], [], [], [0, 1, 2, 3, 4, 5, 6], [0, 1, 2, 3, 4, 5, 6, 7], [0, 1, 2, 3, 4, 5, 6, 7, 8], [0, 1, 2, 3, 4, 5, 6, 7, 8, 9], [0, 1, 2, 3, 4, 5, 6, 7, 8, 9, 10], [0, 1, 2, 3, 4, 5, 6, 7, 8, 9, 10, 11], [0, 1, 2, 3, 4, 5, 6, 7, 8, 9], [0, 1, 2, 3, 4, 5, 6, 7, 8, 9, 13], [0, 1, 2, 3, 4, 5, 6, 7, 8, 9, 10, 11, 12, 13, 14], [0, 1, 2, 3, 4, 5, 6, 7, 8, 9, 10, 11, 12, 13, 14, 15], [0, 1, 2, 3, 4, 5, 6, 7, 8, 9, 10, 11, 12, 13, 14, 15, 16], [0, 1, 2, 3, 4, 5, 6, 7, 8, 9, 10, 11, 12, 13, 14, 15, 16, 17], [0, 1, 2, 3, 4, 5, 6, 7, 8, 9, 10, 11, 12, 13, 14, 15, 16, 17, 18], [0, 1, 2, 3, 4, 5, 6, 7, 8, 9, 10, 11, 12, 13, 14, 15, 16, 17, 18, 19], [0, 1, 2, 3, 4, 5, 6, 7, 8, 9, 10, 11, 12, 13, 14, 15, 16, 17, 18], [0, 1, 2, 3, 4, 5, 6, 7, 8, 9, 10, 11, 12, 13, 14, 15, 16, 17, 18, 19, 20, 21], [0, 1, 2, 3, 4, 5, 6, 7, 8, 9, 10, 11, 12, 13, 14, 15, 16, 17, 18, 19, 20, 21, 22], [0, 1, 2, 3, 4, 5, 6, 7, 8, 9, 10, 11, 12, 13, 14, 15, 16, 17, 18, 19, 20, 21, 22, 23], [0, 1, 2, 3, 4, 5, 6, 7, 8, 9, 10, 11, 12, 13, 14, 15, 16, 17, 18, 19, 20, 21, 22, 23, 24], [0, 1, 2, 3, 4, 5, 6, 7, 8, 9, 10, 11, 12, 13, 14, 15, 16, 17, 18, 19, 20, 21, 22, 23, 24, 25], [0, 1, 2, 3, 4, 5, 6, 7, 8, 9, 10, 11, 12, 13, 14, 15, 16, 17, 18, 19, 20, 21, 22, 23, 24, 25], [0, 1, 2, 3, 4, 5, 6, 7, 8, 9, 10, 11, 12, 13, 14, 15, 16, 17, 18, 19, 20, 21, 22, 23, 24, 25, 26, 27], [0, 1, 2, 3, 4, 5, 6, 7, 8, 9, 10, 11, 12, 13, 14, 15, 16, 17, 18, 19, 20, 21, 22, 23, 24, 25, 26, 27, 28], [0, 1, 2, 3, 4, 5, 6, 7, 8, 9, 10, 11, 12, 13, 14, 15, 16, 17, 18, 19, 20, 21, 22, 23, 24, 25, 26, 27, 28, 29], [0, 1, 2, 3, 4, 5, 6, 7, 8, 9, 10, 11, 12, 13, 14, 15, 16, 17, 18, 19, 20, 21, 22, 23, 24, 25, 26, 27, 28, 29, 30], [0, 1, 2, 3, 4, 5, 6, 7, 8, 9, 10, 11, 12, 13, 14, 15, 16, 17, 18, 19, 20, 21, 22, 23, 24, 25, 26, 27, 28, 29, 30], [0, 1, 2, 3, 4, 5, 6, 7, 8, 9, 10, 11, 12, 13, 14, 15, 16, 17, 18, 19, 20, 21, 22, 23, 24, 25, 26, 27, 28, 29, 30, 31, 32], [0, 1, 2, 3, 4, 5, 6, 7, 8, 9, 10, 11, 12, 13, 14, 15, 16, 17, 18, 19, 20, 21, 22, 23, 24, 25, 26, 27, 28, 29, 30, 31, 32, 33], [0, 1, 2, 3, 4, 5, 6, 7, 8, 9, 10, 11, 12, 13, 14, 15, 16, 17, 18, 19, 20, 21, 22, 23, 24, 25, 26, 27, 28, 29, 30, 31, 32, 33, 34], [0, 1, 2, 3, 4, 5, 6, 7, 8, 9, 10, 11, 12, 13, 14, 15, 16, 17, 18, 19, 20, 21, 22, 23, 24, 25, 26, 27, 28, 29, 30, 31, 32, 33, 34, 35], [0, 1, 2, 3, 4, 5, 6, 7, 8, 9, 10, 11, 12, 13, 14, 15, 16, 17, 18, 19, 20, 21, 22, 23, 24, 25, 26, 27, 28, 29, 30, 31, 32, 33, 34, 35, 36], [0, 1, 2, 3, 4, 5, 6, 7, 8, 9, 10, 11, 12, 13, 14, 15, 16, 17, 18, 19, 20, 21, 22, 23, 24, 25, 26, 27, 28, 29, 30, 31, 32, 33, 34, 35], [0, 1, 2, 3, 4, 5, 6, 7, 8, 9, 10, 11, 12, 13, 14, 15, 16, 17, 18, 19, 20, 21, 22, 23, 24, 25, 26, 27, 28, 29, 30, 31, 32, 33, 34, 35, 36, 37, 38], [0, 1, 2, 3, 4, 5, 6, 7, 8, 9, 10, 11, 12, 13, 14, 15, 16, 17, 18, 19, 20, 21, 22, 23, 24, 25, 26, 27, 28, 29, 30, 31, 32, 33, 34, 35, 36, 37, 38, 39], [0, 1, 2, 3, 4, 5, 6, 7, 8, 9, 10, 11, 12, 13, 14, 15, 16, 17, 18, 19, 20, 21, 22, 23, 24, 25, 26, 27, 28, 29, 30, 31, 32, 33, 34, 35, 36, 37, 38, 39, 40], [0, 1, 2, 3, 4, 5, 6, 7, 8, 9, 10, 11, 12, 13, 14, 15, 16, 17, 18, 19, 20, 21, 22, 23, 24, 25, 26, 27, 28, 29, 30, 31, 32, 33, 34, 35, 36, 37, 38, 39, 40, 41]] (fun i => match i with | 20 => true | 22 => true | 37 => true | 39 => true | _ => false) (by kernel_rfl) ?_
    obtain ⟨x6, f6, h⟩ := bindE h
    try simp -implicitDefEqProofs only [go_sem, seval, f2, f3, hq, cmpr, List.getD_cons_zero, List.getD_cons_succ, List.contains_cons, List.contains_nil, Nat.reduceBEq, Bool.false_or, Bool.or_false, Bool.true_or, Bool.or_true, beq_self_eq_true]
    refine callV_eq (shape_Ins_ok γ _ (by first | exact rdK_app hv0_0 | exact hv0_0) (by first | exact rdK_app hv2_6 | exact hv2_6) f6) rfl rfl ?_
    obtain ⟨x7, f7, h⟩ := bindE h
    try simp -implicitDefEqProofs only [go_sem, seval, f2, f3, hq, cmpr, List.getD_cons_zero, List.getD_cons_succ, List.contains_cons, List.contains_nil, Nat.reduceBEq, Bool.false_or, Bool.or_false, Bool.true_or, Bool.or_true, beq_self_eq_true]
    refine callV_eq (portolanref04_Ins_ok γ _ (by first | exact rdK_app hv0_0 | exact hv0_0) (by first | exact rdK_app hv2_6 | exact hv2_6) f7) rfl rfl ?_
    cases f8 : (x6 == x7)
    ·rw [if_neg (nF f8)] at h
     try simp -implicitDefEqProofs only [go_sem, seval, f2, f3, f8, hq, cmpr, List.getD_cons_zero, List.getD_cons_succ, List.contains_cons, List.contains_nil, Nat.reduceBEq, Bool.false_or, Bool.or_false, Bool.true_or, Bool.or_true, beq_self_eq_true]
     obtain rfl := sI h
     refine X_ret ?_
     simp -implicitDefEqProofs only [go_sem, seval, f2, f3, f8, hq]
     exact Rt.mv0 (BaseR.refl hob) (by simp) (vS)
    ·rw [if_pos f8] at h
     obtain ⟨x8, f9, h⟩ := bindE h
     try simp -implicitDefEqProofs only [go_sem, seval, f2, f3, f8, hq, cmpr, List.getD_cons_zero, List.getD_cons_succ, List.contains_cons, List.contains_nil, Nat.reduceBEq, Bool.false_or, Bool.or_false, Bool.true_or, Bool.or_true, beq_self_eq_true]
     refine callV_eq (shape_Last_ok γ _  f9) rfl rfl ?_
     obtain ⟨x9, f10, h⟩ := bindE h
     try simp -implicitDefEqProofs only [go_sem, seval, f2, f3, f8, hq, cmpr, List.getD_cons_zero, List.getD_cons_succ, List.contains_cons, List.contains_nil, Nat.reduceBEq, Bool.false_or, Bool.or_false, Bool.true_or, Bool.or_true, beq_self_eq_true]
     refine callV_eq (portolanref04_Last_ok γ _  f10) rfl rfl ?_
     cases f11 : (x8 == x9)
     ·rw [if_neg (nF f11)] at h
      try simp -implicitDefEqProofs only [go_sem, seval, f2, f3, f8, f11, hq, cmpr, List.getD_cons_zero, List.getD_cons_succ, List.contains_cons, List.contains_nil, Nat.reduceBEq, Bool.false_or, Bool.or_false, Bool.true_or, Bool.or_true, beq_self_eq_true]
      obtain rfl := sI h
      refine X_ret ?_
      simp -implicitDefEqProofs only [go_sem, seval, f2, f3, f8, f11, hq]
      exact Rt.mv0 (BaseR.refl hob) (by simp) (vS)
     ·rw [if_pos f11] at h
      obtain ⟨x10, f12, h⟩ := bindE h
      try simp -implicitDefEqProofs only [go_sem, seval, f2, f3, f8, f11, hq, cmpr, List.getD_cons_zero, List.getD_cons_succ, List.contains_cons, List.contains_nil, Nat.reduceBEq, Bool.false_or, Bool.or_false, Bool.true_or, Bool.or_true, beq_self_eq_true]
      refine callV_eq (shape_Uses_ok γ _ (by first | exact rdK_app hv2_6 | exact hv2_6) f12) rfl rfl ?_
      obtain ⟨x11, f13, h⟩ := bindE h
      try simp -implicitDefEqProofs only [go_sem, seval, f2, f3, f8, f11, hq, cmpr, List.getD_cons_zero, List.getD_cons_succ, List.contains_cons, List.contains_nil, Nat.reduceBEq, Bool.false_or, Bool.or_false, Bool.true_or, Bool.or_true, beq_self_eq_true]
      refine callV_eq (portolanref04_Uses_ok γ _ (by first | exact rdK_app hv2_6 | exact hv2_6) f13) rfl rfl ?_
      obtain ⟨x12, f14, h⟩ := bindE h
      try simp -implicitDefEqProofs only [go_sem, seval, f2, f3, f8, f11, hq, cmpr, List.getD_cons_zero, List.getD_cons_succ, List.contains_cons, List.contains_nil, Nat.reduceBEq, Bool.false_or, Bool.or_false, Bool.true_or, Bool.or_true, beq_self_eq_true]
      refine callV_eq (portolanref01_Ints_ok γ _ (by simp -implicitDefEqProofs only [go_sem, seval, f2, f3, f8, f11, hq]; try rfl) (by simp -implicitDefEqProofs only [go_sem, seval, f2, f3, f8, f11, hq]; try rfl) f14) rfl rfl ?_
      cases f15 : x12
      ·rw [if_neg (nF f15)] at h
       try simp -implicitDefEqProofs only [go_sem, seval, f2, f3, f8, f11, f15, hq, cmpr, List.getD_cons_zero, List.getD_cons_succ, List.contains_cons, List.contains_nil, Nat.reduceBEq, Bool.false_or, Bool.or_false, Bool.true_or, Bool.or_true, beq_self_eq_true]
       obtain rfl := sI h
       refine X_ret ?_
       simp -implicitDefEqProofs only [go_sem, seval, f2, f3, f8, f11, f15, hq]
       exact Rt.mv0 (BaseR.refl hob) (by simp) (vS)
      ·rw [if_pos f15] at h
       cases f16 : (x4.1 == x5.1)
       ·rw [if_neg (nF f16)] at h
        try simp -implicitDefEqProofs only [go_sem, seval, f2, f3, f8, f11, f15, f16, hq, cmpr, List.getD_cons_zero, List.getD_cons_succ, List.contains_cons, List.contains_nil, Nat.reduceBEq, Bool.false_or, Bool.or_false, Bool.true_or, Bool.or_true, beq_self_eq_true]
        obtain rfl := sI h
        refine X_ret ?_
        simp -implicitDefEqProofs only [go_sem, seval, f2, f3, f8, f11, f15, f16, hq]
        exact Rt.mv0 (BaseR.refl hob) (by simp) (vS)
       ·rw [if_pos f16] at h
        cases f17 : (x4.2 == x5.2)
        ·rw [if_neg (nF f17)] at h
         try simp -implicitDefEqProofs only [go_sem, seval, f2, f3, f8, f11, f15, f16, f17, hq, cmpr, List.getD_cons_zero, List.getD_cons_succ, List.contains_cons, List.contains_nil, Nat.reduceBEq, Bool.false_or, Bool.or_false, Bool.true_or, Bool.or_true, beq_self_eq_true]
         obtain rfl := sI h
         refine X_ret ?_
         simp -implicitDefEqProofs only [go_sem, seval, f2, f3, f8, f11, f15, f16, f17, hq]
         exact Rt.mv0 (BaseR.refl hob) (by simp) (vS)
        ·rw [if_pos f17] at h
         obtain ⟨x13, f18, h⟩ := bindE h
         try simp -implicitDefEqProofs only [go_sem, seval, f2, f3, f8, f11, f15, f16, f17, hq, cmpr, List.getD_cons_zero, List.getD_cons_succ, List.contains_cons, List.contains_nil, Nat.reduceBEq, Bool.false_or, Bool.or_false, Bool.true_or, Bool.or_true, beq_self_eq_true]
         refine callV_eq (shape_Next_ok γ _ (by first | exact rdK_app hv2_6 | exact hv2_6) f18) rfl rfl ?_
         obtain ⟨x14, f19, h⟩ := bindE h
         try simp -implicitDefEqProofs only [go_sem, seval, f2, f3, f8, f11, f15, f16, f17, hq, cmpr, List.getD_cons_zero, List.getD_cons_succ, List.contains_cons, List.contains_nil, Nat.reduceBEq, Bool.false_or, Bool.or_false, Bool.true_or, Bool.or_true, beq_self_eq_true]
         refine callV_eq (portolanref04_Next_ok γ _ (by first | exact rdK_app hv2_6 | exact hv2_6) f19) rfl rfl ?_
         obtain ⟨x15, f20, h⟩ := bindE h
         try simp -implicitDefEqProofs only [go_sem, seval, f2, f3, f8, f11, f15, f16, f17, hq, cmpr, List.getD_cons_zero, List.getD_cons_succ, List.contains_cons, List.contains_nil, Nat.reduceBEq, Bool.false_or, Bool.or_false, Bool.true_or, Bool.or_true, beq_self_eq_true]
         refine callV_eq (portolanref01_Ints_ok γ _ (by simp -implicitDefEqProofs only [go_sem, seval, f2, f3, f8, f11, f15, f16, f17, hq]; try rfl) (by simp -implicitDefEqProofs only [go_sem, seval, f2, f3, f8, f11, f15, f16, f17, hq]; try rfl) f20) rfl rfl ?_
         try simp -implicitDefEqProofs only [go_sem, seval, f2, f3, f8, f11, f15, f16, f17, hq, cmpr, List.getD_cons_zero, List.getD_cons_succ, List.contains_cons, List.contains_nil, Nat.reduceBEq, Bool.false_or, Bool.or_false, Bool.true_or, Bool.or_true, beq_self_eq_true]
         obtain rfl := sI h
         refine X_ret ?_
         simp -implicitDefEqProofs only [go_sem, seval, f2, f3, f8, f11, f15, f16, f17, hq]
         exact Rt.mv0 (BaseR.refl hob) (by simp) (vS)
   ·rw [if_pos f3] at h
    refine X_cond (lx_ok γ) ?_
    simp -implicitDefEqProofs only [go_sem, seval, f2, f3, hq]
    refine X_sr (lx_ok γ) ?_
    simp -implicitDefEqProofs only [go_sem, seval, f2, f3, hq]
    obtain rfl := sI h
    refine X_ret ?_
    simp -implicitDefEqProofs only [go_sem, seval, f2, f3, hq]
    exact Rt.mv0 (BaseR.refl hob) (by simp) (vS)
  ·refine X_reg (lx_ok γ) ?_
   obtain ⟨x16, f21, h⟩ := bindE h
   simp -implicitDefEqProofs only [go_sem, seval, f2, hq]
   refine callV_eq (portolanref03_Great_ok γ _ (by first | exact rdK_app hv0_0 | exact hv0_0) f21) rfl rfl ?_
   cases f22 : x16
   ·rw [if_neg (nF f22)] at h
    simp -implicitDefEqProofs only [go_sem, seval, f2, f22, hq]
    refine kJ_in ?_ ⟨(decide (100 < (List.length a2.Args : Int))), h, rfl, rfl⟩
    exact To.mv [(0, 0), (1, 0)] (BaseR.refl hob) (by simp) (by decide) (by simp only [go_sem]; exact ⟨vS, VM.refA (j := 0) (t := 0) rfl, VM.refA (j := 1) (t := 1) rfl, vS⟩) ⟨⟨_, rfl, OM.box _ _ ⟨VM.self (by simpa using Bd.of_rdK hv0_0), trivial⟩⟩, ⟨_, rfl, OM.box _ _ ⟨vS, vS, vS, vS, vS, vS, VM.self (by simpa using Bd.of_rdK hv2_6), trivial⟩⟩, trivial⟩
   ·rw [if_pos f22] at h
    simp -implicitDefEqProofs only [go_sem, seval, f2, f22, hq]
    refine kJ_in ?_ ⟨true, h, rfl, rfl⟩
    exact To.mv [(0, 0), (1, 0)] (BaseR.refl hob) (by simp) (by decide) (by simp only [go_sem]; exact ⟨vS, VM.refA (j := 0) (t := 0) rfl, VM.refA (j := 1) (t := 1) rfl, vS⟩) ⟨⟨_, rfl, OM.box _ _ ⟨VM.self (by simpa using Bd.of_rdK hv0_0), trivial⟩⟩, ⟨_, rfl, OM.box _ _ ⟨vS, vS, vS, vS, vS, vS, VM.self (by simpa using Bd.of_rdK hv2_6), trivial⟩⟩, trivial⟩
end Go.Pf
end
