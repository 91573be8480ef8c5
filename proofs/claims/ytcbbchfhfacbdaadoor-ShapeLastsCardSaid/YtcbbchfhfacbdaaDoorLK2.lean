/- Each function computes what its plain one says, part 2 -/
import Derived.Laws.Rows
import Derived.Lib.Walk
import Derived.OpenShut
import Derived.ProofKit
import Derived.WalkKit
import Derived.Test.YtcbbchfhfacbdaaDoorLK1
set_option linter.all false
section
/- The fixed fact of the laws of shapes: alive. -/
namespace Go.Pf
open Go Go.Ab Go.Pp Go.Proofs Go.Proofs.S04
set_option maxRecDepth 100000
def tinyW (w : World) : World :=
  (((((w.alloc (.cells #[.slice (some ⟨w.heap.size + 1 + 1 + 1 + 1 + 1, 0, none⟩) 1 1] 24)).alloc (.cells #[.int .i64 0] 3)).alloc (.cells #[.int .i64 (-1)] 3)).alloc
    (.cells #[.int .i64 1, .int .i64 0, .int .i64 0, .int .i64 0, .int .i64 5, .int .i64 0, .slice none 0 0, .int .i64 23, .int .i64 0, .int .i64 0, .int .i64 0, .int .i64 0, .int .i64 0, .slice none 0 0] 35)).alloc
    (.cells #[.slice (some ⟨w.heap.size + 1 + 1 + 1, 0, none⟩) 2 2] 44)).alloc
    (.cells #[.slice (some ⟨w.heap.size + 1, 0, none⟩) 1 1, .slice (some ⟨w.heap.size + 1 + 1, 0, none⟩) 1 1, .int .i64 0, .int .i64 0, .slice (some ⟨w.heap.size + 1 + 1 + 1 + 1, 0, none⟩) 1 1] 31)
theorem al_get (w : World) (o : Obj) (i : Nat) : (w.alloc o).heap[i]? = if i = w.heap.size then some o else w.heap[i]? := by
  simp only [World.alloc, Array.getElem?_push]
theorem al_size (w : World) (o : Obj) : (w.alloc o).heap.size = w.heap.size + 1 := by simp only [World.alloc, Array.size_push]
theorem tiny_calls (w : World) : Calls Tryd.prog 34 #[] w fun e w' => e = .returned (.agg #[.slice (some ⟨w.heap.size + 1 + 1 + 1 + 1 + 1, 0, none⟩) 1 1]) ∧ w' = tinyW w := by
  go_enter Tryd.func34, Tryd.ntmps34
  go_wp2
  refine bodyPost_ret (results_cell_row rfl _ _ w.heap.size 24 #[.slice (some ⟨w.heap.size + 1 + 1 + 1 + 1 + 1, 0, none⟩) 1 1] (0, 0) _ rfl (by rw [al_get, if_neg (by simp only [al_size]; omega), al_get, if_neg (by simp only [al_size]; omega), al_get, if_neg (by simp only [al_size]; omega), al_get, if_neg (by simp only [al_size]; omega), al_get, if_neg (by simp only [al_size]; omega), al_get, if_pos rfl]) Tryd.underlying24 rfl (by kernel_rfl)) rfl ?_
  exact ⟨rfl, rfl⟩

theorem TR_arr {M : Mem} {b : Nat} {arr : Array Value} {T : TypeId} {fr : Nat × Nat} {k n : Nat} {es : List (List Tr)} (hM : M b = some (.cells arr T fr)) (hn : es.length = n) (hk : ∀ e ∈ es, e.length = k) (hl : n * k = arr.size)
    (hT : ∀ i e j t, es[i]? = some e → e[j]? = some t → TR M t (arr.getD (i * k + j) undef)) : TR M (.sl k false es) (.slice (some ⟨b, 0, none⟩) n n) := by
  subst hn
  refine .sl k false es b 0 es.length (fun i j => arr.getD (i * k + j) undef) (by simp) (Nat.le_refl _) hk (fun i e j t hi hj => ?_) hT
  have hil := (List.getElem?_eq_some_iff.1 hi).1
  have hjl := (List.getElem?_eq_some_iff.1 hj).1
  have hke := hk e (List.mem_of_getElem? hi)
  have hlt : i * k + j < arr.size := by
    rw [← hl]
    have : (i + 1) * k ≤ es.length * k := Nat.mul_le_mul_right k hil
    rw [Nat.add_mul] at this; omega
  simp only [Mem.cell, hM, Nat.zero_add]
  rw [Array.getElem?_eq_getElem hlt]
  simp [Array.getD, hlt]
def insC : Ins := ⟨1, 0, 0, 0, 5, 0, []⟩
def insR (op : Int) : Ins := ⟨op, 0, 0, 0, 0, 0, []⟩
def progT (op : Int) : Prog := ⟨[⟨[0], [-1], 0, 0, [⟨[insC, insR op]⟩]⟩]⟩
/-- the blocks of a tiny program, from n on -/
structure TinyAt (w : World) (n : Nat) (op : Int) : Prop where
  h1 : w.heap[n]? = some (.cells #[.int .i64 0] 3)
  h2 : w.heap[n + 1]? = some (.cells #[.int .i64 (-1)] 3)
  h3 : w.heap[n + 2]? = some (.cells #[.int .i64 1, .int .i64 0, .int .i64 0, .int .i64 0, .int .i64 5, .int .i64 0, .slice none 0 0, .int .i64 op, .int .i64 0, .int .i64 0, .int .i64 0, .int .i64 0, .int .i64 0, .slice none 0 0] 35)
  h4 : w.heap[n + 3]? = some (.cells #[.slice (some ⟨n + 2, 0, none⟩) 2 2] 44)
  h5 : w.heap[n + 4]? = some (.cells #[.slice (some ⟨n, 0, none⟩) 1 1, .slice (some ⟨n + 1, 0, none⟩) 1 1, .int .i64 0, .int .i64 0, .slice (some ⟨n + 3, 0, none⟩) 1 1] 31)
theorem TinyAt.same {w w' : World} {n : Nat} {op : Int} (h : TinyAt w n op) (hs : SameW w w') : TinyAt w' n op := by
  have lt : ∀ {b : Nat} {y : Obj}, w.heap[b]? = some y → w'.heap[b]? = some y := fun {b y} hb => by rw [hs.block b (Array.getElem?_eq_some_iff.1 hb).1]; exact hb
  exact ⟨lt h.h1, lt h.h2, lt h.h3, lt h.h4, lt h.h5⟩
theorem TinyAt.tree {w : World} {n : Nat} {op : Int} (h : TinyAt w n op) : TR (memOf w) (.sl 5 false (List.map e_Func (progT op).Funcs)) (.slice (some ⟨n + 4, 0, none⟩) 1 1) := by
  have a1 : TR (memOf w) (.sl 1 false (List.map (eI .i64) [0])) (.slice (some ⟨n, 0, none⟩) 1 1) := TR_arr (M := memOf w) h.h1 rfl (by simp [eI]) rfl (fun i e j t hi hj => by
    rcases i with _ | i <;> simp [eI] at hi
    subst hi
    rcases j with _ | j <;> simp at hj
    subst hj; exact .lit _ rfl)
  have a2 : TR (memOf w) (.sl 1 false (List.map (eI .i64) [-1])) (.slice (some ⟨n + 1, 0, none⟩) 1 1) := TR_arr (M := memOf w) h.h2 rfl (by simp [eI]) rfl (fun i e j t hi hj => by
    rcases i with _ | i <;> simp [eI] at hi
    subst hi
    rcases j with _ | j <;> simp at hj
    subst hj; exact .lit _ rfl)
  have a3 : TR (memOf w) (.sl 7 false (List.map e_Ins [insC, insR op])) (.slice (some ⟨n + 2, 0, none⟩) 2 2) := TR_arr (M := memOf w) h.h3 rfl (by simp [e_Ins]) rfl (fun i e j t hi hj => by
    rcases i with _ | _ | i <;> simp [e_Ins, insC, insR] at hi
    · subst hi
      rcases j with _ | _ | _ | _ | _ | _ | _ | j <;> simp at hj
      all_goals subst hj
      all_goals first | exact .lit _ rfl | exact .nil _ _ _ _ (by simp)
    · subst hi
      rcases j with _ | _ | _ | _ | _ | _ | _ | j <;> simp at hj
      all_goals subst hj
      all_goals first | exact .lit _ rfl | exact .nil _ _ _ _ (by simp))
  have a4 : TR (memOf w) (.sl 1 false (List.map e_Block [⟨[insC, insR op]⟩])) (.slice (some ⟨n + 3, 0, none⟩) 1 1) := TR_arr (M := memOf w) h.h4 rfl (by simp [e_Block]) rfl (fun i e j t hi hj => by
    rcases i with _ | i <;> simp [e_Block] at hi
    subst hi
    rcases j with _ | j <;> simp at hj
    subst hj; exact a3)
  exact TR_arr (M := memOf w) h.h5 rfl (by simp [e_Func, progT]) rfl (fun i e j t hi hj => by
    rcases i with _ | i <;> simp [e_Func, progT] at hi
    subst hi
    rcases j with _ | _ | _ | _ | _ | j <;> simp at hj
    all_goals subst hj
    · exact a1
    · exact a2
    · exact .lit _ rfl
    · exact .lit _ rfl
    · exact a4)
theorem check_plain : shape_Check (progT 23) = some 0 ∧ shape_Check (progT 21) = some 5 := by decide +kernel
theorem last_plain : shape_Last 23 = some true := by decide +kernel
theorem sort2 (a b : Int) : [a, b].mergeSort (fun x y => decide (x ≤ y)) = if a ≤ b then [a, b] else [b, a] := by
  simp [List.mergeSort, List.MergeSort.Internal.splitInTwo, List.merge]
theorem next_plain : shape_Next ⟨22, 0, 0, 0, 3, 1, []⟩ = some [1, 3] := by
  simp only [shape_Next, shape_Next.j1, slices_Sort_int, slices_Compact_int, sort2]
  decide +kernel
theorem Glob.same {w w' : World} {γ : GT} (hg : Glob γ (memOf w)) (h : SameW w w') : Glob γ (memOf w') := by
  exact hg.mono fun b x hb => by
    have hlt : b < w.heap.size := (Array.getElem?_eq_some_iff.1 (show w.heap[b]? = some x from hb)).1
    exact (h.block b hlt).trans hb
theorem check_calls {w : World} {n : Nat} {op r : Int} (hg : Glob gam (memOf w)) (h : TinyAt w n op) (hr : shape_Check (progT op) = some r) :
    Calls Tryd.prog 13 #[.agg #[.slice (some ⟨n + 4, 0, none⟩) 1 1]] w fun e w' => e = .returned (.int .i64 r) ∧ SameW w w' := by
  refine calls_of_valid (L := Lx gam) (shape_Check_ok gam [] hr) hg rfl (fun j c hj => ?_)
  match j, hj with
  | 0, hj =>
    simp at hj; subst hj
    exact .agg _ _ rfl (fun j c hj => by
      match j, hj with
      | 0, hj => simp at hj; subst hj; exact .tr h.tree
      | j + 1, hj => simp at hj)
  | j + 1, hj => simp at hj
theorem last_calls {w : World} (hg : Glob gam (memOf w)) : Calls Tryd.prog 19 #[.int .i64 23] w fun e w' => e = .returned (.bool true) ∧ SameW w w' := by
  refine calls_of_valid (L := Lx gam) (shape_Last_ok gam [] last_plain) hg rfl (fun j c hj => ?_)
  match j, hj with
  | 0, hj => simp at hj; subst hj; exact .tr (.lit _ rfl)
  | j + 1, hj => simp at hj
end Go.Pf
end
section
/- The fixed fact of the laws of shapes: alive, whole. -/
namespace Go.Pf
open Go Go.Ab Go.Pp Go.Proofs Go.Proofs.S04
set_option maxRecDepth 100000
theorem SameW.trans {a b c : World} (h : SameW a b) (k : SameW b c) : SameW a c :=
  ⟨k.os.trans h.os, k.tape.trans h.tape, k.output.trans h.output, Nat.le_trans h.size k.size, fun i hi => (k.block i (Nat.lt_of_lt_of_le hi h.size)).trans (h.block i hi)⟩
theorem SameW.alloc (w : World) (o : Obj) : SameW w (w.alloc o) := ⟨rfl, rfl, rfl, by rw [al_size]; omega, fun b hb => by rw [al_get, if_neg (by omega)]⟩
theorem next_calls {W : World} (hg : Glob gam (memOf W)) :
    Calls Tryd.prog 24 #[.agg #[.int .i64 22, .int .i64 0, .int .i64 0, .int .i64 0, .int .i64 3, .int .i64 1, .slice none 0 0]] W fun e W' =>
      ∃ b st c, e = .returned (.slice (some ⟨b, st, none⟩) 2 c) ∧ W'.cell? ⟨b, st, none⟩ = some (.int .i64 1) ∧ b < W'.heap.size ∧ SameW W W' := by
  have I : Inv (FB (fun _ => none) []) W.heap.size W (memOf W) (fun _ => none) [] :=
    ⟨fun b y h => h, fun o y h => by simp [getO] at h, fun o o' y y' b h => by simp [getO] at h, fun o y b h => by simp [getO] at h, fun o y b h => by simp [getO] at h, fun o g h => by cases h⟩
  have hv := shape_Next_ok gam [] (a0 := ⟨22, 0, 0, 0, 3, 1, []⟩) (v0_6 := V.tr (.sl 0 true [])) (by rfl) next_plain
  refine (hv.2.2 W (memOf W) (fun _ => none) _ I hg rfl (fun j c hj => ?_)).mono ?_
  · match j, hj with
    | 0, hj =>
      simp at hj; subst hj
      refine .agg _ _ rfl (fun j c hj => ?_)
      match j, hj with
      | 0, hj => simp at hj; subst hj; exact .tr (.lit _ rfl)
      | 1, hj => simp at hj; subst hj; exact .tr (.lit _ rfl)
      | 2, hj => simp at hj; subst hj; exact .tr (.lit _ rfl)
      | 3, hj => simp at hj; subst hj; exact .tr (.lit _ rfl)
      | 4, hj => simp at hj; subst hj; exact .tr (.lit _ rfl)
      | 5, hj => simp at hj; subst hj; exact .tr (.lit _ rfl)
      | 6, hj => simp at hj; subst hj; exact .tr (.nil _ _ _ _ (by simp))
      | j + 7, hj => simp at hj
    | j + 1, hj => simp at hj
  · rintro e w' ⟨r, M', G', rfl, hM, _, hr, I2, fr, _⟩
    have hx : getO ([] ++ [some (O.row 1 0 (List.map (eI .i64) [1, 3]))]) 0 = some (O.row 1 0 (List.map eN [1, 3])) := rfl
    obtain ⟨b, st, ri, f, h1, h2, h3, h4, h5, h6, h7, _⟩ := row_put I2 hx (by simp)
    obtain ⟨a, rfl, hra⟩ := row_slice (o := 0) (ver := 0) (len := 2) hr h1 h2
    have h7' : 2 ≤ ri.cap := by simpa using h7
    obtain ⟨b', st', e1, e2⟩ := hra (by omega)
    rw [h3] at e1; cases e1
    rw [Nat.zero_mul, Nat.add_zero] at e2
    subst e2
    refine ⟨b, st, _, rfl, (h5 0 (by simp)).1, h6, fr.os, fr.tape, fr.output, fr.size, fun b hb => fr.block b hb ?_⟩
    rintro ⟨o, y, h, _⟩
    simp [getO] at h
end Go.Pf
end
section
/- The fixed fact of the laws of shapes: its walk. -/
namespace Go.Pf
open Go Go.Ab Go.Pp Go.Proofs Go.Proofs.S04
set_option maxRecDepth 100000
theorem SameW.refl' (w : World) : SameW w w := ⟨rfl, rfl, rfl, Nat.le_refl _, fun _ _ => rfl⟩
def allocs (w : World) (l : List Obj) : World := l.foldl World.alloc w
theorem allocs_size : ∀ (l : List Obj) (w : World), (allocs w l).heap.size = w.heap.size + l.length
  | [], w => rfl
  | o :: l, w => by
    have := allocs_size l (w.alloc o)
    rw [al_size] at this
    simp only [allocs, List.foldl_cons, List.length_cons] at *
    omega
theorem allocs_old : ∀ (l : List Obj) (w : World) (i : Nat), i < w.heap.size → (allocs w l).heap[i]? = w.heap[i]?
  | [], w, i, h => rfl
  | o :: l, w, i, h => by
    have := allocs_old l (w.alloc o) i (by rw [al_size]; omega)
    rw [al_get, if_neg (by omega)] at this
    exact this
theorem allocs_get : ∀ (l : List Obj) (w : World) (i : Nat), i < l.length → (allocs w l).heap[w.heap.size + i]? = l[i]?
  | [], w, i, h => by simp at h
  | o :: l, w, 0, h => by
    have := allocs_old l (w.alloc o) w.heap.size (by rw [al_size]; omega)
    rw [al_get, if_pos rfl] at this
    exact this
  | o :: l, w, i + 1, h => by
    have := allocs_get l (w.alloc o) i (by simpa using h)
    rw [al_size] at this
    rw [show w.heap.size + (i + 1) = w.heap.size + 1 + i by omega]
    exact this
theorem allocs_same (l : List Obj) (w : World) : SameW w (allocs w l) := by
  induction l generalizing w with
  | nil => exact SameW.refl' w
  | cons o l ih => exact SameW.trans (SameW.alloc w o) (ih _)
def objsA (n : Nat) : List Obj :=
  let t := fun (m : Nat) (op : Int) => [Obj.cells #[.slice (some ⟨m + 5, 0, none⟩) 1 1] 24, .cells #[.int .i64 0] 3, .cells #[.int .i64 (-1)] 3,
    .cells #[.int .i64 1, .int .i64 0, .int .i64 0, .int .i64 0, .int .i64 5, .int .i64 0, .slice none 0 0, .int .i64 op, .int .i64 0, .int .i64 0, .int .i64 0, .int .i64 0, .int .i64 0, .slice none 0 0] 35,
    .cells #[.slice (some ⟨m + 3, 0, none⟩) 2 2] 44,
    .cells #[.slice (some ⟨m + 1, 0, none⟩) 1 1, .slice (some ⟨m + 2, 0, none⟩) 1 1, .int .i64 0, .int .i64 0, .slice (some ⟨m + 4, 0, none⟩) 1 1] 31,
    .cells #[.slice (some ⟨m + 5, 0, none⟩) 1 1] 24]
  t n 23 ++ t (n + 7) 21
theorem cell_heap {w : World} {b : Nat} {arr : Array Value} {T : TypeId} {fr : Nat × Nat} (h : w.heap[b]? = some (.cells arr T fr)) (off : Nat) : w.cell? ⟨b, off, none⟩ = arr[off]? := by
  simp [World.cell?, h]
theorem cell_same {w w' : World} (h : SameW w w') {b off : Nat} (hb : b < w.heap.size) : w'.cell? ⟨b, off, none⟩ = w.cell? ⟨b, off, none⟩ := by
  unfold World.cell?
  simp only [h.block b hb]
structure Facts (w w1 : World) : Prop where
  p : w1.cell? ⟨w.heap.size + 6, 0, none⟩ = some (.slice (some ⟨w.heap.size + 5, 0, none⟩) 1 1)
  q : w1.cell? ⟨w.heap.size + 13, 0, none⟩ = some (.slice (some ⟨w.heap.size + 12, 0, none⟩) 1 1)
  t1 : TinyAt w1 (w.heap.size + 1) 23
  t2 : TinyAt w1 (w.heap.size + 8) 21
  s : SameW w w1
  n : w.heap.size + 14 ≤ w1.heap.size
theorem Facts.same {w w1 w2 : World} (h : Facts w w1) (hs : SameW w1 w2) : Facts w w2 :=
  ⟨by rw [cell_same hs (by have := h.n; omega)]; exact h.p, by rw [cell_same hs (by have := h.n; omega)]; exact h.q, h.t1.same hs, h.t2.same hs, SameW.trans h.s hs, Nat.le_trans h.n hs.size⟩
theorem facts0 (w : World) : Facts w (allocs w (objsA w.heap.size)) := by
  have g := fun i hi => allocs_get (objsA w.heap.size) w i hi
  exact ⟨by rw [cell_heap (g 6 (by simp [objsA]))]; rfl, by rw [cell_heap (g 13 (by simp [objsA]))]; rfl, ⟨g 1 (by simp [objsA]), g 2 (by simp [objsA]), g 3 (by simp [objsA]), g 4 (by simp [objsA]), g 5 (by simp [objsA])⟩, ⟨g 8 (by simp [objsA]), g 9 (by simp [objsA]), g 10 (by simp [objsA]), g 11 (by simp [objsA]), g 12 (by simp [objsA])⟩, allocs_same _ w, by rw [allocs_size]; exact Nat.le_refl _⟩
set_option maxHeartbeats 400000 in
theorem alive_calls (w : World) (hg : Glob gam (memOf w)) : Calls Tryd.prog 9 #[] w fun e w' => e = .returned (.bool true) ∧ SameW w w' := by
  go_enter Tryd.func9, Tryd.ntmps9
  go_wp2_with (first
    | (go_at_call 34; refine (tiny_calls _).mono ?_; rintro e w' ⟨rfl, rfl⟩; unfold tinyW)
    | (go_at_call 24; refine (next_calls (Glob.same hg (facts0 w).s)).mono ?_; rintro e w1 ⟨b, st, c, rfl, hc, hb, hs⟩
       obtain ⟨p1, q1, t1, t2, s1, n1⟩ := (facts0 w).same hs; clear hs))
  have X := check_calls (Glob.same hg s1) t1 check_plain.1
  refine Calls.mono X ?_
  rintro e w2 ⟨rfl, hs⟩
  clear X
  obtain ⟨p2, q2, _, t2', s2, n2⟩ := Facts.same ⟨p1, q1, t1, t2, s1, n1⟩ hs
  have hc2 := (cell_same hs hb).trans hc
  have hb2 := Nat.lt_of_lt_of_le hb hs.size
  clear hs p1 q1 t1 t2 s1 n1 hc hb
  go_wp2_with (fail)
  have X := check_calls (Glob.same hg s2) t2' check_plain.2
  refine Calls.mono X ?_
  rintro e w3 ⟨rfl, hs⟩
  clear X
  have hc := (cell_same hs hb2).trans hc2
  have hb := Nat.lt_of_lt_of_le hb2 hs.size
  have s3 := SameW.trans s2 hs
  clear hs p2 q2 t2' s2 n2 hc2 hb2
  go_wp2_with (fail)
  have X := last_calls (Glob.same hg s3)
  refine Calls.mono X ?_
  rintro e w4 ⟨rfl, hs⟩
  clear X
  have hc2 := (cell_same hs hb).trans hc
  have s4 := SameW.trans s3 hs
  clear hs s3 hc hb
  go_wp2
  go_ret
  exact ⟨rfl, s4⟩
theorem Inv.same {F : Nat → Prop} {n0 : Nat} {w w' : World} {M : Mem} {G : Gh} {ob : OT} (I : Inv F n0 w M G ob) (hs : SameW w w') : Inv F n0 w' M G ob :=
  ⟨fun b x hb => by rw [hs.block b (I.memlt hb)]; exact I.mem b x hb, fun o x hx => (I.obj o x hx).mono (Mle.refl _) (Gle.refl _) rfl (fun b hb => hs.block b (I.lt hx hb)), I.dis, I.off, I.own, I.dom⟩
theorem portolanlaw04_alive_ok (γ : GT) (ob : OT) {r : Bool} (h : portolanlaw04_alive = some r) : Valid (Lx γ) 9 [] ob (vbool r) ob := by
  cases h
  refine ⟨⟨⟨Tryd.f9, Tryd.func9, by kernel_rfl, rfl⟩⟩, Nat.le_refl _, fun w M G rs I hg hl ha => ?_⟩
  have : rs = #[] := Array.eq_empty_of_size_eq_zero hl.symm
  subst this
  refine (alive_calls w (hg.mono fun b x hb => I.mem b x hb)).mono ?_
  rintro e w' ⟨rfl, hs⟩
  exact ⟨_, M, G, rfl, Mle.refl _, Gle.refl _, .tr (.lit _ rfl), Inv.same I hs, ⟨hs.os, hs.tape, hs.output, hs.size, fun b hb _ => hs.block b hb⟩, fun _ _ h => h⟩
end Go.Pf
end
section
set_option maxRecDepth 100000
namespace Go.Pf
open Go Go.Ab Go.Pp Go.Proofs Go.Proofs.S04
attribute [local go_sem] Lxτ Lxγ gam0 Int.toNat_natCast  eI eB eS e_Ins e_Block e_Func e_Prog e_code_writer e_code_reader e_Edge

end Go.Pf
end
section
set_option maxRecDepth 100000
namespace Go.Pf
open Go Go.Ab Go.Pp Go.Proofs Go.Proofs.S04
attribute [local go_sem] Lxτ Lxγ gam0 Int.toNat_natCast List.append_eq List.cons_append List.nil_append tau3 tau22 tau24 tau28 tau29 tau31 tau35 tau42 tau44 eI eB eS e_Ins e_Block e_Func e_Prog e_code_writer e_code_reader e_Edge
set_option maxHeartbeats 1000000 in
theorem portolanref03_Great_ok (γ : GT) (ob : OT) {a0 : Prog} {v0_0 : V} (hv0_0 : rdK (getO ob) 5 v0_0 = some (List.map e_Func a0.Funcs)) {r : Bool} (h : portolanref03_Great a0 = some r) :
  Valid (Lx γ) 10 [V.agg [v0_0]] ob (vbool r) ob := by
 refine valid_X (lx_ok γ) (fn := Tryd.f10) (rs := [.tmp 2]) Tryd.func10 (by kernel_rfl) rfl rfl Tryd.ntmps10 rfl (by simp) fun hb hob => ?_
 have hq := rd4 hv0_0
 rw [portolanref03_Great] at h
 refine X_sr (lx_ok γ) ?_
 simp -implicitDefEqProofs only [go_sem, seval, hq]
 refine X_sr (lx_ok γ) ?_
 simp -implicitDefEqProofs only [go_sem, seval, hq]
 refine X_seq ?_
 refine X_sr (lx_ok γ) ?_
 simp -implicitDefEqProofs only [go_sem, seval, hq]
 refine X_jq (J := fun as1 ob1 => ∃ (x1 : Int), portolanref03_Great.k1 x1 = some r ∧ [(3, vint .i64 x1)] = as1 ∧ ob = ob1) ?_ ?_
 ·rintro as1 ob1 ⟨x1, h, rfl, rfl⟩
  rw [portolanref03_Great.k1] at h
  simp -implicitDefEqProofs only [go_sem, seval, hq]
  refine X_sr (lx_ok γ) ?_
  simp -implicitDefEqProofs only [go_sem, seval, hq]
  obtain rfl := sI h
  refine X_ret ?_
  simp -implicitDefEqProofs only [go_sem, seval, hq]
  exact Rt.mv1 (BaseR.refl hob) (by simp) (vS)
 ·refine X_block ?_
  obtain ⟨lr1, hl1, hk1, hr1⟩ := aft2 h
  refine X_forN hl1 (fun (i1 : Nat) (s : Int) as1 ob1 => [(1, V.ref ob.length 0), (3, vint .i64 s), (4, vint .i64 (i1 : Int))] = as1 ∧ ob ++ [some (O.box [v0_0])] = ob1) ⟨_, _, ?_, rfl, rfl⟩ ?_ ?_
  ·exact To.mv [(0, 0)] (BaseR.refl hob) (by simp) (by decide) (by simp only [go_sem]; exact ⟨VM.refA (j := 0) (t := 0) rfl, vS, VM.eqv (by simp) (by simp)⟩) ⟨⟨_, rfl, OM.box _ _ ⟨VM.self (by simpa using Bd.of_rdK hv0_0), trivial⟩⟩, trivial⟩
  ·rintro i1 x1 o1 hi1 hw1 h ho1 as1 ob1 ⟨rfl, rfl⟩
   rw [portolanref03_Great.b1] at h
   refine X_seq ?_
   refine X_sr (lx_ok γ) ?_
   simp -implicitDefEqProofs only [go_sem, seval, hi1, hq]
   cases f1 : decide (x1 ≤ 3000)
   ·rw [if_neg (nF f1)] at h
    refine X_cond (lx_ok γ) ?_
    simp -implicitDefEqProofs only [go_sem, seval, hi1, f1, hq]
    obtain rfl := sI h
    have h := hk1 _ (.inr (ho1 (fun _ hs => nomatch hs)))
    refine X_exit ?_
    try simp -implicitDefEqProofs only [go_sem, ↓reduceIte, Nat.reduceEqDiff, reduceCtorEq]
    refine kJ_in ?_ ⟨x1, h, rfl, rfl⟩
    exact To.mv0 (BaseR.refl hob) (by simp) (by simp only [go_sem]; exact vS)
   ·rw [if_pos f1] at h
    refine X_cond (lx_ok γ) ?_
    simp -implicitDefEqProofs only [go_sem, seval, hi1, f1, hq]
    refine X_skip ?_
    try simp -implicitDefEqProofs only [go_sem]
    refine X_seq ?_
    refine X_block ?_
    refine X_sr (lx_ok γ) ?_
    obtain ⟨x3, f2, h⟩ := bindE h
    obtain ⟨f3, f4⟩ := ixL_nat f2
    have f5 : (0 : Int) ≤ (i1 : Int) := Int.natCast_nonneg _
    simp -implicitDefEqProofs only [go_sem, seval, hi1, f1, hq, f3, f4, f5]
    refine X_sr (lx_ok γ) ?_
    simp -implicitDefEqProofs only [go_sem, seval, hi1, f1, hq]
    refine X_sr (lx_ok γ) ?_
    simp -implicitDefEqProofs only [go_sem, seval, hi1, f1, hq]
    refine X_jq (J := fun as1 ob1 => ∃ (x4 : Int), portolanref03_Great.k2 x4 = some o1 ∧ [(1, V.ref ob.length 0), (3, vint .i64 x4), (4, vint .i64 (i1 : Int))] = as1 ∧ ob ++ [some (O.box [v0_0])] = ob1) ?_ ?_
    ·rintro as1 ob1 ⟨x4, h, rfl, rfl⟩
     rw [portolanref03_Great.k2] at h
     simp -implicitDefEqProofs only [go_sem, seval, hi1, f1, hq]
     refine X_reg (lx_ok γ) ?_
     obtain rfl := sI h
     simp -implicitDefEqProofs only [go_sem, seval, hi1, f1, hq]
     refine kR_in rfl ?_ ⟨rfl, rfl⟩
     exact To.mv [(0, 0)] (BaseR.refl hob) (by simp) (by decide) (by simp only [go_sem]; exact ⟨VM.refA (j := 0) (t := 0) rfl, vS, VM.eqv (by rw [hw1]) (by simp)⟩) ⟨⟨_, rfl, OM.box _ _ ⟨VM.self (by simpa using Bd.of_rdK hv0_0), trivial⟩⟩, trivial⟩
    ·refine X_block ?_
     obtain ⟨lr2, hl2, hk2, hr2⟩ := aft2 h
     refine X_forN hl2 (fun (i2 : Nat) (s : Int) as1 ob1 => [(1, V.ref ob.length 0), (3, vint .i64 s), (4, vint .i64 (i1 : Int)), (5, V.ref (ob.length + 1) 0), (6, vint .i64 (i2 : Int))] = as1 ∧ ob ++ [some (O.box [v0_0]), some (O.box [V.tr (.sl 1 false (List.map (eI .i64) x3.Kinds)), V.tr (.sl 1 false (List.map (eI .i64) x3.Base)), vint .i64 x3.Params, vint .i64 x3.Result, V.tr (.sl 1 false (List.map e_Block x3.Blocks))])] = ob1) ⟨_, _, ?_, rfl, rfl⟩ ?_ ?_
     ·exact To.mv [(0, 0), (1, 0)] (BaseR.refl hob) (by simp) (by decide) (by simp only [go_sem]; exact ⟨VM.refA (j := 0) (t := 0) rfl, vS, vS, VM.refA (j := 1) (t := 1) rfl, VM.eqv (by simp) (by simp)⟩) ⟨⟨_, rfl, OM.box _ _ ⟨VM.self (by simpa using Bd.of_rdK hv0_0), trivial⟩⟩, ⟨_, rfl, OM.box _ _ ⟨vS, vS, vS, vS, vS, trivial⟩⟩, trivial⟩
     ·rintro i2 x4 o2 hi2 hw2 h ho2 as1 ob1 ⟨rfl, rfl⟩
      rw [portolanref03_Great.b2] at h
      refine X_seq ?_
      refine X_sr (lx_ok γ) ?_
      simp -implicitDefEqProofs only [go_sem, seval, hi1, f1, hi2, hq]
      cases f6 : decide (x4 ≤ 3000)
      ·rw [if_neg (nF f6)] at h
       refine X_cond (lx_ok γ) ?_
       simp -implicitDefEqProofs only [go_sem, seval, hi1, f1, hi2, f6, hq]
       obtain rfl := sI h
       have h := hk2 _ (.inr (ho2 (fun _ hs => nomatch hs)))
       refine X_exit ?_
       try simp -implicitDefEqProofs only [go_sem, ↓reduceIte, Nat.reduceEqDiff, reduceCtorEq]
       refine kJ_in ?_ ⟨x4, h, rfl, rfl⟩
       exact To.mv [(0, 0)] (BaseR.refl hob) (by simp) (by decide) (by simp only [go_sem]; exact ⟨VM.refA (j := 0) (t := 0) rfl, vS, vS⟩) ⟨⟨_, rfl, OM.box _ _ ⟨VM.self (by simpa using Bd.of_rdK hv0_0), trivial⟩⟩, trivial⟩
      ·rw [if_pos f6] at h
       refine X_cond (lx_ok γ) ?_
       simp -implicitDefEqProofs only [go_sem, seval, hi1, f1, hi2, f6, hq]
       refine X_skip ?_
       try simp -implicitDefEqProofs only [go_sem]
       refine X_seq ?_
       refine X_block ?_
       refine X_sr (lx_ok γ) ?_
       obtain ⟨x6, f7, h⟩ := bindE h
       obtain ⟨f8, f9⟩ := ixL_nat f7
       have f10 : (0 : Int) ≤ (i2 : Int) := Int.natCast_nonneg _
       simp -implicitDefEqProofs only [go_sem, seval, hi1, f1, hi2, f6, hq, f8, f9, f10]
       refine X_sr (lx_ok γ) ?_
       simp -implicitDefEqProofs only [go_sem, seval, hi1, f1, hi2, f6, hq]
       refine X_jq (J := fun as1 ob1 => ∃ (x7 : Int), portolanref03_Great.k3 x7 = some o2 ∧ [(1, V.ref ob.length 0), (3, vint .i64 x7), (4, vint .i64 (i1 : Int)), (5, V.ref (ob.length + 1) 0), (6, vint .i64 (i2 : Int))] = as1 ∧ ob ++ [some (O.box [v0_0]), some (O.box [V.tr (.sl 1 false (List.map (eI .i64) x3.Kinds)), V.tr (.sl 1 false (List.map (eI .i64) x3.Base)), vint .i64 x3.Params, vint .i64 x3.Result, V.tr (.sl 1 false (List.map e_Block x3.Blocks))])] = ob1) ?_ ?_
       ·rintro as1 ob1 ⟨x7, h, rfl, rfl⟩
        rw [portolanref03_Great.k3] at h
        simp -implicitDefEqProofs only [go_sem, seval, hi1, f1, hi2, f6, hq]
        refine X_reg (lx_ok γ) ?_
        obtain rfl := sI h
        simp -implicitDefEqProofs only [go_sem, seval, hi1, f1, hi2, f6, hq]
        refine kR_in rfl ?_ ⟨rfl, rfl⟩
        exact To.mv [(0, 0), (1, 0)] (BaseR.refl hob) (by simp) (by decide) (by simp only [go_sem]; exact ⟨VM.refA (j := 0) (t := 0) rfl, vS, vS, VM.refA (j := 1) (t := 1) rfl, VM.eqv (by rw [hw2]) (by simp)⟩) ⟨⟨_, rfl, OM.box _ _ ⟨VM.self (by simpa using Bd.of_rdK hv0_0), trivial⟩⟩, ⟨_, rfl, OM.box _ _ ⟨vS, vS, vS, vS, vS, trivial⟩⟩, trivial⟩
       ·refine X_block ?_
        obtain ⟨lr3, hl3, hk3, hr3⟩ := aft2 h
        refine X_while hl3 (fun (s : Int × Int) as1 ob1 => [(1, V.ref ob.length 0), (3, vint .i64 s.1), (4, vint .i64 (i1 : Int)), (5, V.ref (ob.length + 1) 0), (6, vint .i64 (i2 : Int)), (7, vint .i64 s.2)] = as1 ∧ ob ++ [some (O.box [v0_0]), some (O.box [V.tr (.sl 1 false (List.map (eI .i64) x3.Kinds)), V.tr (.sl 1 false (List.map (eI .i64) x3.Base)), vint .i64 x3.Params, vint .i64 x3.Result, V.tr (.sl 1 false (List.map e_Block x3.Blocks))])] = ob1) ⟨_, _, ?_, rfl, rfl⟩ ?_
        ·exact To.mv [(0, 0), (1, 0)] (BaseR.refl hob) (by simp) (by decide) (by simp only [go_sem]; exact ⟨VM.refA (j := 0) (t := 0) rfl, vS, vS, VM.refA (j := 1) (t := 1) rfl, vS, vS⟩) ⟨⟨_, rfl, OM.box _ _ ⟨VM.self (by simpa using Bd.of_rdK hv0_0), trivial⟩⟩, ⟨_, rfl, OM.box _ _ ⟨vS, vS, vS, vS, vS, trivial⟩⟩, trivial⟩
        ·rintro ⟨x7, x8⟩ o3 h ho3 as1 ob1 ⟨rfl, rfl⟩
         rw [portolanref03_Great.b3] at h
         refine X_seq ?_
         refine X_seq ?_
         refine X_jq (J := fun as1 ob1 => ∃ (x10 : Bool), portolanref03_Great.j1 x3 x7 x8 x10 i2 = some o3 ∧ [(1, V.ref ob.length 0), (3, vint .i64 x7), (4, vint .i64 (i1 : Int)), (5, V.ref (ob.length + 1) 0), (6, vint .i64 (i2 : Int)), (7, vint .i64 x8), (72, vbool x10)] = as1 ∧ ob ++ [some (O.box [v0_0]), some (O.box [V.tr (.sl 1 false (List.map (eI .i64) x3.Kinds)), V.tr (.sl 1 false (List.map (eI .i64) x3.Base)), vint .i64 x3.Params, vint .i64 x3.Result, V.tr (.sl 1 false (List.map e_Block x3.Blocks))])] = ob1) ?_ ?_
         ·rintro as1 ob1 ⟨x10, h, rfl, rfl⟩
          rw [portolanref03_Great.j1] at h
          simp -implicitDefEqProofs only [go_sem, seval, hi1, f1, hi2, f6, hq]
          cases f11 : x10
          ·rw [if_neg (nF f11)] at h
           refine X_cond (lx_ok γ) ?_
           simp -implicitDefEqProofs only [go_sem, seval, hi1, f1, hi2, f6, f11, hq]
           obtain rfl := sI h
           have h := hk3 _ (.inr (ho3 (fun _ hs => nomatch hs)))
           refine X_exit ?_
           try simp -implicitDefEqProofs only [go_sem, ↓reduceIte, Nat.reduceEqDiff, reduceCtorEq]
           refine kJ_in ?_ ⟨x7, h, rfl, rfl⟩
           exact To.mv [(0, 0), (1, 0)] (BaseR.refl hob) (by simp) (by decide) (by simp only [go_sem]; exact ⟨VM.refA (j := 0) (t := 0) rfl, vS, vS, VM.refA (j := 1) (t := 1) rfl, vS⟩) ⟨⟨_, rfl, OM.box _ _ ⟨VM.self (by simpa using Bd.of_rdK hv0_0), trivial⟩⟩, ⟨_, rfl, OM.box _ _ ⟨vS, vS, vS, vS, vS, trivial⟩⟩, trivial⟩
          ·rw [if_pos f11] at h
           refine X_cond (lx_ok γ) ?_
           simp -implicitDefEqProofs only [go_sem, seval, hi1, f1, hi2, f6, f11, hq]
           refine X_skip ?_
           try simp -implicitDefEqProofs only [go_sem]
           refine X_seq ?_
           refine X_block ?_
           refine X_reg (lx_ok γ) ?_
           obtain ⟨x11, f12, h⟩ := bindE h
           obtain ⟨f13, f14⟩ := ixL_nat f12
           have f15 : (0 : Int) ≤ (i2 : Int) := Int.natCast_nonneg _
           obtain ⟨x12, f16, h⟩ := bindE h
           obtain ⟨f17, f18, f19⟩ := ixL_some f16
           try simp only [Int.toNat_natCast, Int.reduceToNat] at f19
           simp -implicitDefEqProofs only [go_sem, seval, hi1, f1, hi2, f6, f11, hq, f13, f14, f15, f17, f18, f19]
           refine X_reg (lx_ok γ) ?_
           obtain rfl := sI h
           simp -implicitDefEqProofs only [go_sem, seval, hi1, f1, hi2, f6, f11, hq]
           refine kR_in rfl ?_ ⟨rfl, rfl⟩
           exact To.mv [(0, 0), (1, 0)] (BaseR.refl hob) (by simp) (by decide) (by simp only [go_sem]; exact ⟨VM.refA (j := 0) (t := 0) rfl, vS, vS, VM.refA (j := 1) (t := 1) rfl, vS, vS⟩) ⟨⟨_, rfl, OM.box _ _ ⟨VM.self (by simpa using Bd.of_rdK hv0_0), trivial⟩⟩, ⟨_, rfl, OM.box _ _ ⟨vS, vS, vS, vS, vS, trivial⟩⟩, trivial⟩
         ·refine X_reg (lx_ok γ) ?_
          obtain ⟨x13, f20, h⟩ := bindE h
          obtain ⟨f21, f22⟩ := ixL_nat f20
          have f23 : (0 : Int) ≤ (i2 : Int) := Int.natCast_nonneg _
          cases f24 : decide (x8 < (List.length x13.Code : Int))
          ·rw [if_neg (nF f24)] at h
           simp -implicitDefEqProofs only [go_sem, seval, hi1, f1, hi2, f6, f24, hq, f21, f22, f23]
           refine kJ_in ?_ ⟨false, h, rfl, rfl⟩
           exact To.mv [(0, 0), (1, 0)] (BaseR.refl hob) (by simp) (by decide) (by simp only [go_sem]; exact ⟨VM.refA (j := 0) (t := 0) rfl, vS, vS, VM.refA (j := 1) (t := 1) rfl, vS, vS, vS⟩) ⟨⟨_, rfl, OM.box _ _ ⟨VM.self (by simpa using Bd.of_rdK hv0_0), trivial⟩⟩, ⟨_, rfl, OM.box _ _ ⟨vS, vS, vS, vS, vS, trivial⟩⟩, trivial⟩
          ·rw [if_pos f24] at h
           simp -implicitDefEqProofs only [go_sem, seval, hi1, f1, hi2, f6, f24, hq, f21, f22, f23]
           refine kJ_in ?_ ⟨(decide (x7 ≤ 3000)), h, rfl, rfl⟩
           exact To.mv [(0, 0), (1, 0)] (BaseR.refl hob) (by simp) (by decide) (by simp only [go_sem]; exact ⟨VM.refA (j := 0) (t := 0) rfl, vS, vS, VM.refA (j := 1) (t := 1) rfl, vS, vS, vS⟩) ⟨⟨_, rfl, OM.box _ _ ⟨VM.self (by simpa using Bd.of_rdK hv0_0), trivial⟩⟩, ⟨_, rfl, OM.box _ _ ⟨vS, vS, vS, vS, vS, trivial⟩⟩, trivial⟩
     ·rintro i2 x4 hi2 hn2 as1 ob1 ⟨rfl, rfl⟩
      refine X_seq ?_
      refine X_sr (lx_ok γ) ?_
      simp -implicitDefEqProofs only [go_sem, seval, hi1, f1, hi2, hq]
      refine X_condF (lx_ok γ) rfl ?_
      have h := hk2 _ (.inl hn2)
      refine X_exit ?_
      try simp -implicitDefEqProofs only [go_sem, ↓reduceIte, Nat.reduceEqDiff, reduceCtorEq]
      refine kJ_in ?_ ⟨x4, h, rfl, rfl⟩
      exact To.mv [(0, 0)] (BaseR.refl hob) (by simp) (by decide) (by simp only [go_sem]; exact ⟨VM.refA (j := 0) (t := 0) rfl, vS, vS⟩) ⟨⟨_, rfl, OM.box _ _ ⟨VM.self (by simpa using Bd.of_rdK hv0_0), trivial⟩⟩, trivial⟩
  ·rintro i1 x1 hi1 hn1 as1 ob1 ⟨rfl, rfl⟩
   refine X_seq ?_
   refine X_sr (lx_ok γ) ?_
   simp -implicitDefEqProofs only [go_sem, seval, hi1, hq]
   refine X_condF (lx_ok γ) rfl ?_
   have h := hk1 _ (.inl hn1)
   refine X_exit ?_
   try simp -implicitDefEqProofs only [go_sem, ↓reduceIte, Nat.reduceEqDiff, reduceCtorEq]
   refine kJ_in ?_ ⟨x1, h, rfl, rfl⟩
   exact To.mv0 (BaseR.refl hob) (by simp) (by simp only [go_sem]; exact vS)
end Go.Pf
end
section
set_option maxRecDepth 100000
namespace Go.Pf
open Go Go.Ab Go.Pp Go.Proofs Go.Proofs.S04
attribute [local go_sem] Lxτ Lxγ gam0 Int.toNat_natCast List.append_eq List.cons_append List.nil_append tau3 tau4 tau22 tau24 tau28 tau29 tau31 tau32 tau35 tau42 tau44 eI eB eS e_Ins e_Block e_Func e_Prog e_code_writer e_code_reader e_Edge
set_option maxHeartbeats 1000000 in
theorem portolanlaw04_ShapeLasts_ok (γ : GT) (ob : OT) {a0 : Prog} {r : Bool} (h : portolanlaw04_ShapeLasts a0 = some r) :
  Valid (Lx γ) 5 [V.agg [V.tr (.sl 5 false (List.map e_Func a0.Funcs))]] ob (vbool r) ob := by
 refine valid_X (lx_ok γ) (fn := Tryd.f5) (rs := [.tmp 2]) Tryd.func5 (by kernel_rfl) rfl rfl Tryd.ntmps5 rfl (by simp) fun hb hob => ?_
 rw [portolanlaw04_ShapeLasts] at h
 refine X_sr (lx_ok γ) ?_
 simp -implicitDefEqProofs only [go_sem, seval]
 refine X_seq ?_
 refine X_sr (lx_ok γ) ?_
 obtain ⟨x1, f1, h⟩ := bindE h
 simp -implicitDefEqProofs only [go_sem, seval]
 refine callV_eq (portolanlaw04_alive_ok γ _  f1) rfl rfl ?_
 simp -implicitDefEqProofs only [go_sem, seval]
 cases f2 : x1
 ·rw [if_neg (nF f2)] at h
  refine X_cond (lx_ok γ) ?_
  simp -implicitDefEqProofs only [go_sem, seval, f2]
  refine X_sr (lx_ok γ) ?_
  simp -implicitDefEqProofs only [go_sem, seval, f2]
  obtain rfl := sI h
  refine X_ret ?_
  simp -implicitDefEqProofs only [go_sem, seval, f2]
  exact Rt.mv0 (BaseR.refl hob) (by simp) (vS)
 ·rw [if_pos f2] at h
  refine X_cond (lx_ok γ) ?_
  simp -implicitDefEqProofs only [go_sem, seval, f2]
  refine X_skip ?_
  try simp -implicitDefEqProofs only [go_sem]
  refine X_seq ?_
  refine X_seq ?_
  refine X_jq (J := fun as1 ob1 => ∃ (x3 : Bool), portolanlaw04_ShapeLasts.j1 a0 x3 = some r ∧ [(1, V.ref ob.length 0), (20, vbool x3)] = as1 ∧ ob ++ [some (O.box [V.tr (.sl 5 false (List.map e_Func a0.Funcs))])] = ob1) ?_ ?_
  ·rintro as1 ob1 ⟨x3, h, rfl, rfl⟩
   rw [portolanlaw04_ShapeLasts.j1] at h
   simp -implicitDefEqProofs only [go_sem, seval, f2]
   cases f3 : x3
   ·rw [if_neg (nF f3)] at h
    refine X_cond (lx_ok γ) ?_
    simp -implicitDefEqProofs only [go_sem, seval, f2, f3]
    refine X_skip ?_
    try simp -implicitDefEqProofs only [go_sem]
    refine X_seq ?_
    refine X_sr (lx_ok γ) ?_
    simp -implicitDefEqProofs only [go_sem, seval, f2, f3]
    refine X_jq (J := fun as1 ob1 => portolanlaw04_ShapeLasts.k1 = some r ∧ [] = as1 ∧ ob = ob1) ?_ ?_
    ·rintro as1 ob1 ⟨h, rfl, rfl⟩
     rw [portolanlaw04_ShapeLasts.k1] at h
     simp -implicitDefEqProofs only [go_sem, seval, f2, f3]
     refine X_sr (lx_ok γ) ?_
     simp -implicitDefEqProofs only [go_sem, seval, f2, f3]
     obtain rfl := sI h
     refine X_ret ?_
     simp -implicitDefEqProofs only [go_sem, seval, f2, f3]
     exact Rt.mv1 (BaseR.refl hob) (by simp) (vS)
    ·refine X_block ?_
     obtain ⟨lr1, hl1, hk1, hr1⟩ := aft2 h
     refine X_forN hl1 (fun (i1 : Nat) (s : Unit) as1 ob1 => [(1, V.ref ob.length 0), (3, vint .i64 (i1 : Int))] = as1 ∧ ob ++ [some (O.box [V.tr (.sl 5 false (List.map e_Func a0.Funcs))])] = ob1) ⟨_, _, ?_, rfl, rfl⟩ ?_ ?_
     ·exact To.mv [(0, 0)] (BaseR.refl hob) (by simp) (by decide) (by simp only [go_sem]; exact ⟨VM.refA (j := 0) (t := 0) rfl, VM.eqv (by simp) (by simp)⟩) ⟨⟨_, rfl, OM.box _ _ ⟨vS, trivial⟩⟩, trivial⟩
     ·rintro i1 _ o1 hi1 hw1 h ho1 as1 ob1 ⟨rfl, rfl⟩
      rw [portolanlaw04_ShapeLasts.b1] at h
      refine X_seq ?_
      refine X_sr (lx_ok γ) ?_
      simp -implicitDefEqProofs only [go_sem, seval, f2, f3, hi1]
      refine X_cond (lx_ok γ) ?_
      simp -implicitDefEqProofs only [go_sem, seval, f2, f3, hi1]
      refine X_skip ?_
      try simp -implicitDefEqProofs only [go_sem]
      refine X_seq ?_
      refine X_block ?_
      refine X_sr (lx_ok γ) ?_
      obtain ⟨x5, f4, h⟩ := bindE h
      obtain ⟨f5, f6⟩ := ixL_nat f4
      have f7 : (0 : Int) ≤ (i1 : Int) := Int.natCast_nonneg _
      simp -implicitDefEqProofs only [go_sem, seval, f2, f3, hi1, f5, f6, f7]
      refine X_sr (lx_ok γ) ?_
      simp -implicitDefEqProofs only [go_sem, seval, f2, f3, hi1]
      refine X_jq (J := fun as1 ob1 => portolanlaw04_ShapeLasts.k2 = some o1 ∧ [(1, V.ref ob.length 0), (3, vint .i64 (i1 : Int))] = as1 ∧ ob ++ [some (O.box [V.tr (.sl 5 false (List.map e_Func a0.Funcs))])] = ob1) ?_ ?_
      ·rintro as1 ob1 ⟨h, rfl, rfl⟩
       rw [portolanlaw04_ShapeLasts.k2] at h
       simp -implicitDefEqProofs only [go_sem, seval, f2, f3, hi1]
       refine X_reg (lx_ok γ) ?_
       obtain rfl := sI h
       simp -implicitDefEqProofs only [go_sem, seval, f2, f3, hi1]
       refine kR_in rfl ?_ ⟨rfl, rfl⟩
       exact To.mv [(0, 0)] (BaseR.refl hob) (by simp) (by decide) (by simp only [go_sem]; exact ⟨VM.refA (j := 0) (t := 0) rfl, VM.eqv (by rw [hw1]) (by simp)⟩) ⟨⟨_, rfl, OM.box _ _ ⟨vS, trivial⟩⟩, trivial⟩
      ·refine X_block ?_
       obtain ⟨lr2, hl2, hk2, hr2⟩ := aft2 h
       refine X_forN hl2 (fun (i2 : Nat) (s : Unit) as1 ob1 => [(1, V.ref ob.length 0), (3, vint .i64 (i1 : Int)), (4, V.ref (ob.length + 1) 0), (5, vint .i64 (i2 : Int))] = as1 ∧ ob ++ [some (O.box [V.tr (.sl 5 false (List.map e_Func a0.Funcs))]), some (O.box [V.tr (.sl 1 false (List.map (eI .i64) x5.Kinds)), V.tr (.sl 1 false (List.map (eI .i64) x5.Base)), vint .i64 x5.Params, vint .i64 x5.Result, V.tr (.sl 1 false (List.map e_Block x5.Blocks))])] = ob1) ⟨_, _, ?_, rfl, rfl⟩ ?_ ?_
       ·exact To.mv [(0, 0), (1, 0)] (BaseR.refl hob) (by simp) (by decide) (by simp only [go_sem]; exact ⟨VM.refA (j := 0) (t := 0) rfl, vS, VM.refA (j := 1) (t := 1) rfl, VM.eqv (by simp) (by simp)⟩) ⟨⟨_, rfl, OM.box _ _ ⟨vS, trivial⟩⟩, ⟨_, rfl, OM.box _ _ ⟨vS, vS, vS, vS, vS, trivial⟩⟩, trivial⟩
       ·rintro i2 _ o2 hi2 hw2 h ho2 as1 ob1 ⟨rfl, rfl⟩
        rw [portolanlaw04_ShapeLasts.b2] at h
        refine X_seq ?_
        refine X_sr (lx_ok γ) ?_
        simp -implicitDefEqProofs only [go_sem, seval, f2, f3, hi1, hi2]
        refine X_cond (lx_ok γ) ?_
        simp -implicitDefEqProofs only [go_sem, seval, f2, f3, hi1, hi2]
        refine X_skip ?_
        try simp -implicitDefEqProofs only [go_sem]
        refine X_seq ?_
        refine X_block ?_
        refine X_sr (lx_ok γ) ?_
        obtain ⟨x7, f8, h⟩ := bindE h
        obtain ⟨f9, f10⟩ := ixL_nat f8
        have f11 : (0 : Int) ≤ (i2 : Int) := Int.natCast_nonneg _
        simp -implicitDefEqProofs only [go_sem, seval, f2, f3, hi1, hi2, f9, f10, f11]
        refine X_sr (lx_ok γ) ?_
        simp -implicitDefEqProofs only [go_sem, seval, f2, f3, hi1, hi2]
        refine X_jq (J := fun as1 ob1 => portolanlaw04_ShapeLasts.k3 = some o2 ∧ [(1, V.ref ob.length 0), (3, vint .i64 (i1 : Int)), (4, V.ref (ob.length + 1) 0), (5, vint .i64 (i2 : Int))] = as1 ∧ ob ++ [some (O.box [V.tr (.sl 5 false (List.map e_Func a0.Funcs))]), some (O.box [V.tr (.sl 1 false (List.map (eI .i64) x5.Kinds)), V.tr (.sl 1 false (List.map (eI .i64) x5.Base)), vint .i64 x5.Params, vint .i64 x5.Result, V.tr (.sl 1 false (List.map e_Block x5.Blocks))])] = ob1) ?_ ?_
        ·rintro as1 ob1 ⟨h, rfl, rfl⟩
         rw [portolanlaw04_ShapeLasts.k3] at h
         simp -implicitDefEqProofs only [go_sem, seval, f2, f3, hi1, hi2]
         refine X_reg (lx_ok γ) ?_
         obtain rfl := sI h
         simp -implicitDefEqProofs only [go_sem, seval, f2, f3, hi1, hi2]
         refine kR_in rfl ?_ ⟨rfl, rfl⟩
         exact To.mv [(0, 0), (1, 0)] (BaseR.refl hob) (by simp) (by decide) (by simp only [go_sem]; exact ⟨VM.refA (j := 0) (t := 0) rfl, vS, VM.refA (j := 1) (t := 1) rfl, VM.eqv (by rw [hw2]) (by simp)⟩) ⟨⟨_, rfl, OM.box _ _ ⟨vS, trivial⟩⟩, ⟨_, rfl, OM.box _ _ ⟨vS, vS, vS, vS, vS, trivial⟩⟩, trivial⟩
        ·refine X_block ?_
         obtain ⟨lr3, hl3, hk3, hr3⟩ := aft2 h
         refine X_forN hl3 (fun (i3 : Nat) (s : Unit) as1 ob1 => [(1, V.ref ob.length 0), (3, vint .i64 (i1 : Int)), (4, V.ref (ob.length + 1) 0), (5, vint .i64 (i2 : Int)), (6, V.tr (.sl 7 false (List.map e_Ins x7.Code))), (7, vint .i64 (i3 : Int))] = as1 ∧ ob ++ [some (O.box [V.tr (.sl 5 false (List.map e_Func a0.Funcs))]), some (O.box [V.tr (.sl 1 false (List.map (eI .i64) x5.Kinds)), V.tr (.sl 1 false (List.map (eI .i64) x5.Base)), vint .i64 x5.Params, vint .i64 x5.Result, V.tr (.sl 1 false (List.map e_Block x5.Blocks))])] = ob1) ⟨_, _, ?_, rfl, rfl⟩ ?_ ?_
         ·exact To.mv [(0, 0), (1, 0)] (BaseR.refl hob) (by simp) (by decide) (by simp only [go_sem]; exact ⟨VM.refA (j := 0) (t := 0) rfl, vS, VM.refA (j := 1) (t := 1) rfl, vS, vS, VM.eqv (by simp) (by simp)⟩) ⟨⟨_, rfl, OM.box _ _ ⟨vS, trivial⟩⟩, ⟨_, rfl, OM.box _ _ ⟨vS, vS, vS, vS, vS, trivial⟩⟩, trivial⟩
         ·rintro i3 _ o3 hi3 hw3 h ho3 as1 ob1 ⟨rfl, rfl⟩
          rw [portolanlaw04_ShapeLasts.b3] at h
          refine X_seq ?_
          refine X_sr (lx_ok γ) ?_
          simp -implicitDefEqProofs only [go_sem, seval, f2, f3, hi1, hi2, hi3]
          refine X_cond (lx_ok γ) ?_
          simp -implicitDefEqProofs only [go_sem, seval, f2, f3, hi1, hi2, hi3]
          refine X_skip ?_
          try simp -implicitDefEqProofs only [go_sem]
          refine X_seq ?_
          refine X_block ?_
          refine X_sr (lx_ok γ) ?_
          obtain ⟨x9, f12, h⟩ := bindE h
          obtain ⟨f13, f14⟩ := ixL_nat f12
          have f15 : (0 : Int) ≤ (i3 : Int) := Int.natCast_nonneg _
          obtain ⟨x10, f16, h⟩ := bindE h
          simp -implicitDefEqProofs only [go_sem, seval, f2, f3, hi1, hi2, hi3, f13, f14, f15]
          refine callV_eq (shape_Next_ok γ _ (by simp -implicitDefEqProofs only [go_sem, seval, f2, f3, hi1, hi2, hi3, f13, f14, f15]; try rfl) f16) rfl rfl ?_
          simp -implicitDefEqProofs only [go_sem, seval, f2, f3, hi1, hi2, hi3, f13, f14, f15]
          refine X_seq ?_
          refine X_jq (J := fun as1 ob1 => portolanlaw04_ShapeLasts.j2 x5 x7 x10 i3 = some o3 ∧ [(1, V.ref ob.length 0), (3, vint .i64 (i1 : Int)), (4, V.ref (ob.length + 1) 0), (5, vint .i64 (i2 : Int)), (6, V.tr (.sl 7 false (List.map e_Ins x7.Code))), (7, vint .i64 (i3 : Int)), (8, V.row (ob.length + 2) 0 0 (List.length x10))] = as1 ∧ ob ++ [some (O.box [V.tr (.sl 5 false (List.map e_Func a0.Funcs))]), some (O.box [V.tr (.sl 1 false (List.map (eI .i64) x5.Kinds)), V.tr (.sl 1 false (List.map (eI .i64) x5.Base)), vint .i64 x5.Params, vint .i64 x5.Result, V.tr (.sl 1 false (List.map e_Block x5.Blocks))]), some (O.row 1 0 (List.map (eI .i64) x10))] = ob1) ?_ ?_
          ·rintro as1 ob1 ⟨h, rfl, rfl⟩
           rw [portolanlaw04_ShapeLasts.j2] at h
           simp -implicitDefEqProofs only [go_sem, seval, f2, f3, hi1, hi2, hi3]
           refine X_seq ?_
           refine X_sr (lx_ok γ) ?_
           simp -implicitDefEqProofs only [go_sem, seval, f2, f3, hi1, hi2, hi3]
           refine X_jq (J := fun as1 ob1 => portolanlaw04_ShapeLasts.k4 x5 x7 i3 = some o3 ∧ [(1, V.ref ob.length 0), (3, vint .i64 (i1 : Int)), (4, V.ref (ob.length + 1) 0), (5, vint .i64 (i2 : Int)), (6, V.tr (.sl 7 false (List.map e_Ins x7.Code))), (7, vint .i64 (i3 : Int))] = as1 ∧ ob ++ [some (O.box [V.tr (.sl 5 false (List.map e_Func a0.Funcs))]), some (O.box [V.tr (.sl 1 false (List.map (eI .i64) x5.Kinds)), V.tr (.sl 1 false (List.map (eI .i64) x5.Base)), vint .i64 x5.Params, vint .i64 x5.Result, V.tr (.sl 1 false (List.map e_Block x5.Blocks))])] = ob1) ?_ ?_
           ·rintro as1 ob1 ⟨h, rfl, rfl⟩
            rw [portolanlaw04_ShapeLasts.k4] at h
            simp -implicitDefEqProofs only [go_sem, seval, f2, f3, hi1, hi2, hi3]
            refine X_sr (lx_ok γ) ?_
            obtain ⟨x12, f17, h⟩ := bindE h
            obtain ⟨f18, f19⟩ := ixL_nat f17
            have f20 : (0 : Int) ≤ (i3 : Int) := Int.natCast_nonneg _
            obtain ⟨x13, f21, h⟩ := bindE h
            simp -implicitDefEqProofs only [go_sem, seval, f2, f3, hi1, hi2, hi3, f18, f19, f20]
            refine callV_eq (shape_Uses_ok γ _ (by simp -implicitDefEqProofs only [go_sem, seval, f2, f3, hi1, hi2, hi3, f18, f19, f20]; try rfl) f21) rfl rfl ?_
            simp -implicitDefEqProofs only [go_sem, seval, f2, f3, hi1, hi2, hi3, f18, f19, f20]
            refine X_sr (lx_ok γ) ?_
            simp -implicitDefEqProofs only [go_sem, seval, f2, f3, hi1, hi2, hi3]
            refine X_jq (J := fun as1 ob1 => portolanlaw04_ShapeLasts.k5 = some o3 ∧ [(1, V.ref ob.length 0), (3, vint .i64 (i1 : Int)), (4, V.ref (ob.length + 1) 0), (5, vint .i64 (i2 : Int)), (6, V.tr (.sl 7 false (List.map e_Ins x7.Code))), (7, vint .i64 (i3 : Int))] = as1 ∧ ob ++ [some (O.box [V.tr (.sl 5 false (List.map e_Func a0.Funcs))]), some (O.box [V.tr (.sl 1 false (List.map (eI .i64) x5.Kinds)), V.tr (.sl 1 false (List.map (eI .i64) x5.Base)), vint .i64 x5.Params, vint .i64 x5.Result, V.tr (.sl 1 false (List.map e_Block x5.Blocks))])] = ob1) ?_ ?_
            ·rintro as1 ob1 ⟨h, rfl, rfl⟩
             rw [portolanlaw04_ShapeLasts.k5] at h
             simp -implicitDefEqProofs only [go_sem, seval, f2, f3, hi1, hi2, hi3]
             refine X_reg (lx_ok γ) ?_
             obtain rfl := sI h
             simp -implicitDefEqProofs only [go_sem, seval, f2, f3, hi1, hi2, hi3]
             refine kR_in rfl ?_ ⟨rfl, rfl⟩
             exact To.mv [(0, 0), (1, 0)] (BaseR.refl hob) (by simp) (by decide) (by simp only [go_sem]; exact ⟨VM.refA (j := 0) (t := 0) rfl, vS, VM.refA (j := 1) (t := 1) rfl, vS, vS, VM.eqv (by rw [hw3]) (by simp)⟩) ⟨⟨_, rfl, OM.box _ _ ⟨vS, trivial⟩⟩, ⟨_, rfl, OM.box _ _ ⟨vS, vS, vS, vS, vS, trivial⟩⟩, trivial⟩
            ·refine X_block ?_
             obtain ⟨lr5, hl5, hk5, hr5⟩ := aft2 h
             refine X_forN hl5 (fun (i5 : Nat) (s : Unit) as1 ob1 => [(1, V.ref ob.length 0), (3, vint .i64 (i1 : Int)), (4, V.ref (ob.length + 1) 0), (5, vint .i64 (i2 : Int)), (6, V.tr (.sl 7 false (List.map e_Ins x7.Code))), (7, vint .i64 (i3 : Int)), (10, V.row (ob.length + 2) 0 0 (List.length x13)), (11, vint .i64 (i5 : Int))] = as1 ∧ ob ++ [some (O.box [V.tr (.sl 5 false (List.map e_Func a0.Funcs))]), some (O.box [V.tr (.sl 1 false (List.map (eI .i64) x5.Kinds)), V.tr (.sl 1 false (List.map (eI .i64) x5.Base)), vint .i64 x5.Params, vint .i64 x5.Result, V.tr (.sl 1 false (List.map e_Block x5.Blocks))]), some (O.row 1 0 (List.map (eI .i64) x13))] = ob1) ⟨_, _, ?_, rfl, rfl⟩ ?_ ?_
             ·exact To.mv [(0, 0), (1, 0), (2, 0)] (BaseR.refl hob) (by simp) (by decide) (by simp only [go_sem]; exact ⟨VM.refA (j := 0) (t := 0) rfl, vS, VM.refA (j := 1) (t := 1) rfl, vS, vS, vS, VM.rowL (j := 2) (t := 2) rfl (by first | rfl | simp | simp_all | omega), VM.eqv (by simp) (by simp)⟩) ⟨⟨_, rfl, OM.box _ _ ⟨vS, trivial⟩⟩, ⟨_, rfl, OM.box _ _ ⟨vS, vS, vS, vS, vS, trivial⟩⟩, ⟨_, rfl, OM.row' (by first | rfl | simp_all)⟩, trivial⟩
             ·rintro i5 _ o5 hi5 hw5 h ho5 as1 ob1 ⟨rfl, rfl⟩
              rw [portolanlaw04_ShapeLasts.b5] at h
              refine X_seq ?_
              refine X_sr (lx_ok γ) ?_
              simp -implicitDefEqProofs only [go_sem, seval, f2, f3, hi1, hi2, hi3, hi5]
              refine X_cond (lx_ok γ) ?_
              simp -implicitDefEqProofs only [go_sem, seval, f2, f3, hi1, hi2, hi3, hi5]
              refine X_skip ?_
              try simp -implicitDefEqProofs only [go_sem]
              refine X_seq ?_
              refine X_block ?_
              refine X_seq ?_
              refine X_drawn (lx_ok γ) [[], [], [0, 1], [0, 1, 2], [0, 1, 2, 3], [0, 1, 2, 3, 4], [0, 1, 2, 3, 4, 5], [0, 1, 2, 3, 4, 5], [0, 1, 2, 3, 4, 5, 6, 7], [0, 1, 2, 3, 4, 5, 6, 7, 8], [0, 1, 2, 3, 4, 5], [0, 1, 2, 3, 4, 5, 10], [0, 1, 2, 3, 4, 5, 10, 11], [0, 1, 2, 3, 4, 5, 6, 7, 8, 9, 10, 11, 12], [0, 1, 2, 3, 4, 5, 6, 7, 8, 9, 10, 11, 12, 13]] (fun i => match i with | _ => false) (by kernel_rfl) ?_
              obtain ⟨x15, f22, h⟩ := bindE h
              obtain ⟨f23, f24⟩ := ixL_nat f22
              have f25 : (0 : Int) ≤ (i5 : Int) := Int.natCast_nonneg _
              cases f26 : decide (x15 < 0)
              ·rw [if_neg (nF f26)] at h
               try simp -implicitDefEqProofs only [go_sem, seval, f2, f3, hi1, hi2, hi3, hi5, f26, f23, f24, f25, cmpr, List.getD_cons_zero, List.getD_cons_succ, List.contains_cons, List.contains_nil, Nat.reduceBEq, Bool.false_or, Bool.or_false, Bool.true_or, Bool.or_true, beq_self_eq_true]
               cases f27 : decide ((List.length x5.Kinds : Int) ≤ x15)
               ·rw [if_neg (nF f27)] at h
                refine X_cond (lx_ok γ) ?_
                simp -implicitDefEqProofs only [go_sem, seval, f2, f3, hi1, hi2, hi3, hi5, f26, f27, f23, f24, f25]
                refine X_skip ?_
                try simp -implicitDefEqProofs only [go_sem]
                refine X_reg (lx_ok γ) ?_
                obtain rfl := sI h
                simp -implicitDefEqProofs only [go_sem, seval, f2, f3, hi1, hi2, hi3, hi5, f26, f27]
                refine kR_in rfl ?_ ⟨rfl, rfl⟩
                exact To.mv [(0, 0), (1, 0), (2, 0)] (BaseR.refl hob) (by simp) (by decide) (by simp only [go_sem]; exact ⟨VM.refA (j := 0) (t := 0) rfl, vS, VM.refA (j := 1) (t := 1) rfl, vS, vS, vS, VM.rowL (j := 2) (t := 2) rfl (by first | rfl | simp | simp_all | omega), VM.eqv (by rw [hw5]) (by simp)⟩) ⟨⟨_, rfl, OM.box _ _ ⟨vS, trivial⟩⟩, ⟨_, rfl, OM.box _ _ ⟨vS, vS, vS, vS, vS, trivial⟩⟩, ⟨_, rfl, OM.row' (by first | rfl | simp_all)⟩, trivial⟩
               ·rw [if_pos f27] at h
                refine X_cond (lx_ok γ) ?_
                simp -implicitDefEqProofs only [go_sem, seval, f2, f3, hi1, hi2, hi3, hi5, f26, f27, f23, f24, f25]
                refine X_sr (lx_ok γ) ?_
                simp -implicitDefEqProofs only [go_sem, seval, f2, f3, hi1, hi2, hi3, hi5, f26, f27]
                obtain rfl := sI h
                have h := hr5 _ (ho5 (fun _ hs => nomatch hs))
                obtain rfl := sI h
                have h := hr3 _ (ho3 (fun _ hs => nomatch hs))
                obtain rfl := sI h
                have h := hr2 _ (ho2 (fun _ hs => nomatch hs))
                obtain rfl := sI h
                have h := hr1 _ (ho1 (fun _ hs => nomatch hs))
                obtain rfl := sI h
                refine X_ret ?_
                simp -implicitDefEqProofs only [go_sem, seval, f2, f3, hi1, hi2, hi3, hi5, f26, f27]
                exact Rt.mv0 (BaseR.refl hob) (by simp) (vS)
              ·rw [if_pos f26] at h
               try simp -implicitDefEqProofs only [go_sem, seval, f2, f3, hi1, hi2, hi3, hi5, f26, f23, f24, f25, cmpr, List.getD_cons_zero, List.getD_cons_succ, List.contains_cons, List.contains_nil, Nat.reduceBEq, Bool.false_or, Bool.or_false, Bool.true_or, Bool.or_true, beq_self_eq_true]
               refine X_condT (lx_ok γ) rfl ?_
               refine X_sr (lx_ok γ) ?_
               simp -implicitDefEqProofs only [go_sem, seval, f2, f3, hi1, hi2, hi3, hi5, f26]
               obtain rfl := sI h
               have h := hr5 _ (ho5 (fun _ hs => nomatch hs))
               obtain rfl := sI h
               have h := hr3 _ (ho3 (fun _ hs => nomatch hs))
               obtain rfl := sI h
               have h := hr2 _ (ho2 (fun _ hs => nomatch hs))
               obtain rfl := sI h
               have h := hr1 _ (ho1 (fun _ hs => nomatch hs))
               obtain rfl := sI h
               refine X_ret ?_
               simp -implicitDefEqProofs only [go_sem, seval, f2, f3, hi1, hi2, hi3, hi5, f26]
               exact Rt.mv0 (BaseR.refl hob) (by simp) (vS)
             ·rintro i5 _ hi5 hn5 as1 ob1 ⟨rfl, rfl⟩
              refine X_seq ?_
              refine X_sr (lx_ok γ) ?_
              simp -implicitDefEqProofs only [go_sem, seval, f2, f3, hi1, hi2, hi3, hi5]
              refine X_cond (lx_ok γ) ?_
              simp -implicitDefEqProofs only [go_sem, seval, f2, f3, hi1, hi2, hi3, hi5]
              have h := hk5 _ (.inl hn5)
              refine X_exit ?_
              try simp -implicitDefEqProofs only [go_sem, ↓reduceIte, Nat.reduceEqDiff, reduceCtorEq]
              refine kJ_in ?_ ⟨h, rfl, rfl⟩
              exact To.mv [(0, 0), (1, 0)] (BaseR.refl hob) (by simp) (by decide) (by simp only [go_sem]; exact ⟨VM.refA (j := 0) (t := 0) rfl, vS, VM.refA (j := 1) (t := 1) rfl, vS, vS, vS⟩) ⟨⟨_, rfl, OM.box _ _ ⟨vS, trivial⟩⟩, ⟨_, rfl, OM.box _ _ ⟨vS, vS, vS, vS, vS, trivial⟩⟩, trivial⟩
           ·refine X_block ?_
            obtain ⟨lr4, hl4, hk4, hr4⟩ := aft2 h
            refine X_forN hl4 (fun (i4 : Nat) (s : Unit) as1 ob1 => [(1, V.ref ob.length 0), (3, vint .i64 (i1 : Int)), (4, V.ref (ob.length + 1) 0), (5, vint .i64 (i2 : Int)), (6, V.tr (.sl 7 false (List.map e_Ins x7.Code))), (7, vint .i64 (i3 : Int)), (8, V.row (ob.length + 2) 0 0 (List.length x10)), (9, vint .i64 (i4 : Int))] = as1 ∧ ob ++ [some (O.box [V.tr (.sl 5 false (List.map e_Func a0.Funcs))]), some (O.box [V.tr (.sl 1 false (List.map (eI .i64) x5.Kinds)), V.tr (.sl 1 false (List.map (eI .i64) x5.Base)), vint .i64 x5.Params, vint .i64 x5.Result, V.tr (.sl 1 false (List.map e_Block x5.Blocks))]), some (O.row 1 0 (List.map (eI .i64) x10))] = ob1) ⟨_, _, ?_, rfl, rfl⟩ ?_ ?_
            ·exact To.mv [(0, 0), (1, 0), (2, 0)] (BaseR.refl hob) (by simp) (by decide) (by simp only [go_sem]; exact ⟨VM.refA (j := 0) (t := 0) rfl, vS, VM.refA (j := 1) (t := 1) rfl, vS, vS, vS, VM.rowL (j := 2) (t := 2) rfl (by first | rfl | simp | simp_all | omega), VM.eqv (by simp) (by simp)⟩) ⟨⟨_, rfl, OM.box _ _ ⟨vS, trivial⟩⟩, ⟨_, rfl, OM.box _ _ ⟨vS, vS, vS, vS, vS, trivial⟩⟩, ⟨_, rfl, OM.row' (by first | rfl | simp_all)⟩, trivial⟩
            ·rintro i4 _ o4 hi4 hw4 h ho4 as1 ob1 ⟨rfl, rfl⟩
             rw [portolanlaw04_ShapeLasts.b4] at h
             refine X_seq ?_
             refine X_sr (lx_ok γ) ?_
             simp -implicitDefEqProofs only [go_sem, seval, f2, f3, hi1, hi2, hi3, hi4]
             refine X_cond (lx_ok γ) ?_
             simp -implicitDefEqProofs only [go_sem, seval, f2, f3, hi1, hi2, hi3, hi4]
             refine X_skip ?_
             try simp -implicitDefEqProofs only [go_sem]
             refine X_seq ?_
             refine X_block ?_
             refine X_seq ?_
             refine X_drawn (lx_ok γ) [[], [], [0, 1], [0, 1, 2], [0, 1, 2, 3], [0, 1, 2, 3, 4], [0, 1, 2, 3, 4, 5], [0, 1, 2, 3, 4, 5], [0, 1, 2, 3, 4, 5, 6, 7], [0, 1, 2, 3, 4, 5, 6, 7, 8], [0, 1, 2, 3, 4, 5], [0, 1, 2, 3, 4, 5, 10], [0, 1, 2, 3, 4, 5, 10, 11], [0, 1, 2, 3, 4, 5, 6, 7, 8, 9, 10, 11, 12], [0, 1, 2, 3, 4, 5, 6, 7, 8, 9, 10, 11, 12, 13]] (fun i => match i with | _ => false) (by kernel_rfl) ?_
             obtain ⟨x16, f28, h⟩ := bindE h
             obtain ⟨f29, f30⟩ := ixL_nat f28
             have f31 : (0 : Int) ≤ (i4 : Int) := Int.natCast_nonneg _
             cases f32 : decide (x16 < 1)
             ·rw [if_neg (nF f32)] at h
              try simp -implicitDefEqProofs only [go_sem, seval, f2, f3, hi1, hi2, hi3, hi4, f32, f29, f30, f31, cmpr, List.getD_cons_zero, List.getD_cons_succ, List.contains_cons, List.contains_nil, Nat.reduceBEq, Bool.false_or, Bool.or_false, Bool.true_or, Bool.or_true, beq_self_eq_true]
              cases f33 : decide ((List.length x5.Blocks : Int) ≤ x16)
              ·rw [if_neg (nF f33)] at h
               refine X_cond (lx_ok γ) ?_
               simp -implicitDefEqProofs only [go_sem, seval, f2, f3, hi1, hi2, hi3, hi4, f32, f33, f29, f30, f31]
               refine X_skip ?_
               try simp -implicitDefEqProofs only [go_sem]
               refine X_reg (lx_ok γ) ?_
               obtain rfl := sI h
               simp -implicitDefEqProofs only [go_sem, seval, f2, f3, hi1, hi2, hi3, hi4, f32, f33]
               refine kR_in rfl ?_ ⟨rfl, rfl⟩
               exact To.mv [(0, 0), (1, 0), (2, 0)] (BaseR.refl hob) (by simp) (by decide) (by simp only [go_sem]; exact ⟨VM.refA (j := 0) (t := 0) rfl, vS, VM.refA (j := 1) (t := 1) rfl, vS, vS, vS, VM.rowL (j := 2) (t := 2) rfl (by first | rfl | simp | simp_all | omega), VM.eqv (by rw [hw4]) (by simp)⟩) ⟨⟨_, rfl, OM.box _ _ ⟨vS, trivial⟩⟩, ⟨_, rfl, OM.box _ _ ⟨vS, vS, vS, vS, vS, trivial⟩⟩, ⟨_, rfl, OM.row' (by first | rfl | simp_all)⟩, trivial⟩
              ·rw [if_pos f33] at h
               refine X_cond (lx_ok γ) ?_
               simp -implicitDefEqProofs only [go_sem, seval, f2, f3, hi1, hi2, hi3, hi4, f32, f33, f29, f30, f31]
               refine X_sr (lx_ok γ) ?_
               simp -implicitDefEqProofs only [go_sem, seval, f2, f3, hi1, hi2, hi3, hi4, f32, f33]
               obtain rfl := sI h
               have h := hr4 _ (ho4 (fun _ hs => nomatch hs))
               obtain rfl := sI h
               have h := hr3 _ (ho3 (fun _ hs => nomatch hs))
               obtain rfl := sI h
               have h := hr2 _ (ho2 (fun _ hs => nomatch hs))
               obtain rfl := sI h
               have h := hr1 _ (ho1 (fun _ hs => nomatch hs))
               obtain rfl := sI h
               refine X_ret ?_
               simp -implicitDefEqProofs only [go_sem, seval, f2, f3, hi1, hi2, hi3, hi4, f32, f33]
               exact Rt.mv0 (BaseR.refl hob) (by simp) (vS)
             ·rw [if_pos f32] at h
              try simp -implicitDefEqProofs only [go_sem, seval, f2, f3, hi1, hi2, hi3, hi4, f32, f29, f30, f31, cmpr, List.getD_cons_zero, List.getD_cons_succ, List.contains_cons, List.contains_nil, Nat.reduceBEq, Bool.false_or, Bool.or_false, Bool.true_or, Bool.or_true, beq_self_eq_true]
              refine X_condT (lx_ok γ) rfl ?_
              refine X_sr (lx_ok γ) ?_
              simp -implicitDefEqProofs only [go_sem, seval, f2, f3, hi1, hi2, hi3, hi4, f32]
              obtain rfl := sI h
              have h := hr4 _ (ho4 (fun _ hs => nomatch hs))
              obtain rfl := sI h
              have h := hr3 _ (ho3 (fun _ hs => nomatch hs))
              obtain rfl := sI h
              have h := hr2 _ (ho2 (fun _ hs => nomatch hs))
              obtain rfl := sI h
              have h := hr1 _ (ho1 (fun _ hs => nomatch hs))
              obtain rfl := sI h
              refine X_ret ?_
              simp -implicitDefEqProofs only [go_sem, seval, f2, f3, hi1, hi2, hi3, hi4, f32]
              exact Rt.mv0 (BaseR.refl hob) (by simp) (vS)
            ·rintro i4 _ hi4 hn4 as1 ob1 ⟨rfl, rfl⟩
             refine X_seq ?_
             refine X_sr (lx_ok γ) ?_
             simp -implicitDefEqProofs only [go_sem, seval, f2, f3, hi1, hi2, hi3, hi4]
             refine X_cond (lx_ok γ) ?_
             simp -implicitDefEqProofs only [go_sem, seval, f2, f3, hi1, hi2, hi3, hi4]
             have h := hk4 _ (.inl hn4)
             refine X_exit ?_
             try simp -implicitDefEqProofs only [go_sem, ↓reduceIte, Nat.reduceEqDiff, reduceCtorEq]
             refine kJ_in ?_ ⟨h, rfl, rfl⟩
             exact To.mv [(0, 0), (1, 0)] (BaseR.refl hob) (by simp) (by decide) (by simp only [go_sem]; exact ⟨VM.refA (j := 0) (t := 0) rfl, vS, VM.refA (j := 1) (t := 1) rfl, vS, vS, vS⟩) ⟨⟨_, rfl, OM.box _ _ ⟨vS, trivial⟩⟩, ⟨_, rfl, OM.box _ _ ⟨vS, vS, vS, vS, vS, trivial⟩⟩, trivial⟩
          ·refine X_sr (lx_ok γ) ?_
           obtain ⟨x17, f34, h⟩ := bindE h
           simp -implicitDefEqProofs only [go_sem, seval, f2, f3, hi1, hi2, hi3, f13, f14, f15]
           refine callV_eq (shape_Last_ok γ _  f34) rfl rfl ?_
           cases f35 : x17 == ((i3 : Int) == w64 ((List.length x7.Code : Int) - 1))
           ·rw [if_neg (nF f35)] at h
            simp -implicitDefEqProofs only [go_sem, seval, f2, f3, hi1, hi2, hi3, f35, f13, f14, f15]
            refine X_condT (lx_ok γ) rfl ?_
            refine X_sr (lx_ok γ) ?_
            simp -implicitDefEqProofs only [go_sem, seval, f2, f3, hi1, hi2, hi3, f35]
            obtain rfl := sI h
            have h := hr3 _ (ho3 (fun _ hs => nomatch hs))
            obtain rfl := sI h
            have h := hr2 _ (ho2 (fun _ hs => nomatch hs))
            obtain rfl := sI h
            have h := hr1 _ (ho1 (fun _ hs => nomatch hs))
            obtain rfl := sI h
            refine X_ret ?_
            simp -implicitDefEqProofs only [go_sem, seval, f2, f3, hi1, hi2, hi3, f35]
            exact Rt.mv0 (BaseR.refl hob) (by simp) (vS)
           ·rw [if_pos f35] at h
            cases f36 : decide (0 < (List.length x10 : Int))
            ·rw [if_neg (nF f36)] at h
             cases f37 : ((List.length x10 : Int) == 0)
             ·rw [if_neg (nF f37)] at h
              simp -implicitDefEqProofs only [go_sem, seval, f2, f3, hi1, hi2, hi3, f35, f36, f37, f13, f14, f15]
              refine X_condF (lx_ok γ) rfl ?_
              refine X_skip ?_
              try simp -implicitDefEqProofs only [go_sem]
              refine kJ_in ?_ ⟨h, rfl, rfl⟩
              exact To.mv [(0, 0), (1, 0), (2, 0)] (BaseR.refl hob) (by simp) (by decide) (by simp only [go_sem]; exact ⟨VM.refA (j := 0) (t := 0) rfl, vS, VM.refA (j := 1) (t := 1) rfl, vS, vS, vS, VM.rowL (j := 2) (t := 2) rfl (by first | rfl | simp | simp_all | omega)⟩) ⟨⟨_, rfl, OM.box _ _ ⟨vS, trivial⟩⟩, ⟨_, rfl, OM.box _ _ ⟨vS, vS, vS, vS, vS, trivial⟩⟩, ⟨_, rfl, OM.row' (by first | rfl | simp_all)⟩, trivial⟩
             ·rw [if_pos f37] at h
              obtain ⟨x18, f38, h⟩ := bindE h
              simp -implicitDefEqProofs only [go_sem, seval, f2, f3, hi1, hi2, hi3, f35, f36, f37, f13, f14, f15]
              refine callV_eq (shape_Last_ok γ _  f38) rfl rfl ?_
              cases f39 : x18
              ·rw [if_neg (nF f39)] at h
               simp -implicitDefEqProofs only [go_sem, seval, f2, f3, hi1, hi2, hi3, f35, f36, f37, f39, f13, f14, f15]
               refine X_condF (lx_ok γ) rfl ?_
               refine X_skip ?_
               try simp -implicitDefEqProofs only [go_sem]
               refine kJ_in ?_ ⟨h, rfl, rfl⟩
               exact To.mv [(0, 0), (1, 0), (2, 0)] (BaseR.refl hob) (by simp) (by decide) (by simp only [go_sem]; exact ⟨VM.refA (j := 0) (t := 0) rfl, vS, VM.refA (j := 1) (t := 1) rfl, vS, vS, vS, VM.rowL (j := 2) (t := 2) rfl (by first | rfl | simp | simp_all | omega)⟩) ⟨⟨_, rfl, OM.box _ _ ⟨vS, trivial⟩⟩, ⟨_, rfl, OM.box _ _ ⟨vS, vS, vS, vS, vS, trivial⟩⟩, ⟨_, rfl, OM.row' (by first | rfl | simp_all)⟩, trivial⟩
              ·rw [if_pos f39] at h
               simp -implicitDefEqProofs only [go_sem, seval, f2, f3, hi1, hi2, hi3, f35, f36, f37, f39, f13, f14, f15]
               cases f40 : (x9.Op != 23)
               ·rw [if_neg (nF f40)] at h
                refine X_cond (lx_ok γ) ?_
                simp -implicitDefEqProofs only [go_sem, seval, f2, f3, hi1, hi2, hi3, f35, f36, f37, f39, f40, f13, f14, f15]
                refine X_skip ?_
                try simp -implicitDefEqProofs only [go_sem]
                refine kJ_in ?_ ⟨h, rfl, rfl⟩
                exact To.mv [(0, 0), (1, 0), (2, 0)] (BaseR.refl hob) (by simp) (by decide) (by simp only [go_sem]; exact ⟨VM.refA (j := 0) (t := 0) rfl, vS, VM.refA (j := 1) (t := 1) rfl, vS, vS, vS, VM.rowL (j := 2) (t := 2) rfl (by first | rfl | simp | simp_all | omega)⟩) ⟨⟨_, rfl, OM.box _ _ ⟨vS, trivial⟩⟩, ⟨_, rfl, OM.box _ _ ⟨vS, vS, vS, vS, vS, trivial⟩⟩, ⟨_, rfl, OM.row' (by first | rfl | simp_all)⟩, trivial⟩
               ·rw [if_pos f40] at h
                refine X_cond (lx_ok γ) ?_
                simp -implicitDefEqProofs only [go_sem, seval, f2, f3, hi1, hi2, hi3, f35, f36, f37, f39, f40, f13, f14, f15]
                refine X_sr (lx_ok γ) ?_
                simp -implicitDefEqProofs only [go_sem, seval, f2, f3, hi1, hi2, hi3, f35, f36, f37, f39, f40]
                obtain rfl := sI h
                have h := hr3 _ (ho3 (fun _ hs => nomatch hs))
                obtain rfl := sI h
                have h := hr2 _ (ho2 (fun _ hs => nomatch hs))
                obtain rfl := sI h
                have h := hr1 _ (ho1 (fun _ hs => nomatch hs))
                obtain rfl := sI h
                refine X_ret ?_
                simp -implicitDefEqProofs only [go_sem, seval, f2, f3, hi1, hi2, hi3, f35, f36, f37, f39, f40]
                exact Rt.mv0 (BaseR.refl hob) (by simp) (vS)
            ·rw [if_pos f36] at h
             cases f41 : decide ((i3 : Int) < w64 ((List.length x7.Code : Int) - 1))
             ·rw [if_neg (nF f41)] at h
              cases f42 : ((List.length x10 : Int) == 0)
              ·rw [if_neg (nF f42)] at h
               simp -implicitDefEqProofs only [go_sem, seval, f2, f3, hi1, hi2, hi3, f35, f36, f41, f42, f13, f14, f15]
               refine X_condF (lx_ok γ) rfl ?_
               refine X_skip ?_
               try simp -implicitDefEqProofs only [go_sem]
               refine kJ_in ?_ ⟨h, rfl, rfl⟩
               exact To.mv [(0, 0), (1, 0), (2, 0)] (BaseR.refl hob) (by simp) (by decide) (by simp only [go_sem]; exact ⟨VM.refA (j := 0) (t := 0) rfl, vS, VM.refA (j := 1) (t := 1) rfl, vS, vS, vS, VM.rowL (j := 2) (t := 2) rfl (by first | rfl | simp | simp_all | omega)⟩) ⟨⟨_, rfl, OM.box _ _ ⟨vS, trivial⟩⟩, ⟨_, rfl, OM.box _ _ ⟨vS, vS, vS, vS, vS, trivial⟩⟩, ⟨_, rfl, OM.row' (by first | rfl | simp_all)⟩, trivial⟩
              ·rw [if_pos f42] at h
               obtain ⟨x19, f43, h⟩ := bindE h
               simp -implicitDefEqProofs only [go_sem, seval, f2, f3, hi1, hi2, hi3, f35, f36, f41, f42, f13, f14, f15]
               refine callV_eq (shape_Last_ok γ _  f43) rfl rfl ?_
               cases f44 : x19
               ·rw [if_neg (nF f44)] at h
                simp -implicitDefEqProofs only [go_sem, seval, f2, f3, hi1, hi2, hi3, f35, f36, f41, f42, f44, f13, f14, f15]
                refine X_condF (lx_ok γ) rfl ?_
                refine X_skip ?_
                try simp -implicitDefEqProofs only [go_sem]
                refine kJ_in ?_ ⟨h, rfl, rfl⟩
                exact To.mv [(0, 0), (1, 0), (2, 0)] (BaseR.refl hob) (by simp) (by decide) (by simp only [go_sem]; exact ⟨VM.refA (j := 0) (t := 0) rfl, vS, VM.refA (j := 1) (t := 1) rfl, vS, vS, vS, VM.rowL (j := 2) (t := 2) rfl (by first | rfl | simp | simp_all | omega)⟩) ⟨⟨_, rfl, OM.box _ _ ⟨vS, trivial⟩⟩, ⟨_, rfl, OM.box _ _ ⟨vS, vS, vS, vS, vS, trivial⟩⟩, ⟨_, rfl, OM.row' (by first | rfl | simp_all)⟩, trivial⟩
               ·rw [if_pos f44] at h
                simp -implicitDefEqProofs only [go_sem, seval, f2, f3, hi1, hi2, hi3, f35, f36, f41, f42, f44, f13, f14, f15]
                cases f45 : (x9.Op != 23)
                ·rw [if_neg (nF f45)] at h
                 refine X_cond (lx_ok γ) ?_
                 simp -implicitDefEqProofs only [go_sem, seval, f2, f3, hi1, hi2, hi3, f35, f36, f41, f42, f44, f45, f13, f14, f15]
                 refine X_skip ?_
                 try simp -implicitDefEqProofs only [go_sem]
                 refine kJ_in ?_ ⟨h, rfl, rfl⟩
                 exact To.mv [(0, 0), (1, 0), (2, 0)] (BaseR.refl hob) (by simp) (by decide) (by simp only [go_sem]; exact ⟨VM.refA (j := 0) (t := 0) rfl, vS, VM.refA (j := 1) (t := 1) rfl, vS, vS, vS, VM.rowL (j := 2) (t := 2) rfl (by first | rfl | simp | simp_all | omega)⟩) ⟨⟨_, rfl, OM.box _ _ ⟨vS, trivial⟩⟩, ⟨_, rfl, OM.box _ _ ⟨vS, vS, vS, vS, vS, trivial⟩⟩, ⟨_, rfl, OM.row' (by first | rfl | simp_all)⟩, trivial⟩
                ·rw [if_pos f45] at h
                 refine X_cond (lx_ok γ) ?_
                 simp -implicitDefEqProofs only [go_sem, seval, f2, f3, hi1, hi2, hi3, f35, f36, f41, f42, f44, f45, f13, f14, f15]
                 refine X_sr (lx_ok γ) ?_
                 simp -implicitDefEqProofs only [go_sem, seval, f2, f3, hi1, hi2, hi3, f35, f36, f41, f42, f44, f45]
                 obtain rfl := sI h
                 have h := hr3 _ (ho3 (fun _ hs => nomatch hs))
                 obtain rfl := sI h
                 have h := hr2 _ (ho2 (fun _ hs => nomatch hs))
                 obtain rfl := sI h
                 have h := hr1 _ (ho1 (fun _ hs => nomatch hs))
                 obtain rfl := sI h
                 refine X_ret ?_
                 simp -implicitDefEqProofs only [go_sem, seval, f2, f3, hi1, hi2, hi3, f35, f36, f41, f42, f44, f45]
                 exact Rt.mv0 (BaseR.refl hob) (by simp) (vS)
             ·rw [if_pos f41] at h
              simp -implicitDefEqProofs only [go_sem, seval, f2, f3, hi1, hi2, hi3, f35, f36, f41, f13, f14, f15]
              refine X_condT (lx_ok γ) rfl ?_
              refine X_sr (lx_ok γ) ?_
              simp -implicitDefEqProofs only [go_sem, seval, f2, f3, hi1, hi2, hi3, f35, f36, f41]
              obtain rfl := sI h
              have h := hr3 _ (ho3 (fun _ hs => nomatch hs))
              obtain rfl := sI h
              have h := hr2 _ (ho2 (fun _ hs => nomatch hs))
              obtain rfl := sI h
              have h := hr1 _ (ho1 (fun _ hs => nomatch hs))
              obtain rfl := sI h
              refine X_ret ?_
              simp -implicitDefEqProofs only [go_sem, seval, f2, f3, hi1, hi2, hi3, f35, f36, f41]
              exact Rt.mv0 (BaseR.refl hob) (by simp) (vS)
         ·rintro i3 _ hi3 hn3 as1 ob1 ⟨rfl, rfl⟩
          refine X_seq ?_
          refine X_sr (lx_ok γ) ?_
          simp -implicitDefEqProofs only [go_sem, seval, f2, f3, hi1, hi2, hi3]
          refine X_cond (lx_ok γ) ?_
          simp -implicitDefEqProofs only [go_sem, seval, f2, f3, hi1, hi2, hi3]
          have h := hk3 _ (.inl hn3)
          refine X_exit ?_
          try simp -implicitDefEqProofs only [go_sem, ↓reduceIte, Nat.reduceEqDiff, reduceCtorEq]
          refine kJ_in ?_ ⟨h, rfl, rfl⟩
          exact To.mv [(0, 0), (1, 0)] (BaseR.refl hob) (by simp) (by decide) (by simp only [go_sem]; exact ⟨VM.refA (j := 0) (t := 0) rfl, vS, VM.refA (j := 1) (t := 1) rfl, vS⟩) ⟨⟨_, rfl, OM.box _ _ ⟨vS, trivial⟩⟩, ⟨_, rfl, OM.box _ _ ⟨vS, vS, vS, vS, vS, trivial⟩⟩, trivial⟩
       ·rintro i2 _ hi2 hn2 as1 ob1 ⟨rfl, rfl⟩
        refine X_seq ?_
        refine X_sr (lx_ok γ) ?_
        simp -implicitDefEqProofs only [go_sem, seval, f2, f3, hi1, hi2]
        refine X_cond (lx_ok γ) ?_
        simp -implicitDefEqProofs only [go_sem, seval, f2, f3, hi1, hi2]
        have h := hk2 _ (.inl hn2)
        refine X_exit ?_
        try simp -implicitDefEqProofs only [go_sem, ↓reduceIte, Nat.reduceEqDiff, reduceCtorEq]
        refine kJ_in ?_ ⟨h, rfl, rfl⟩
        exact To.mv [(0, 0)] (BaseR.refl hob) (by simp) (by decide) (by simp only [go_sem]; exact ⟨VM.refA (j := 0) (t := 0) rfl, vS⟩) ⟨⟨_, rfl, OM.box _ _ ⟨vS, trivial⟩⟩, trivial⟩
     ·rintro i1 _ hi1 hn1 as1 ob1 ⟨rfl, rfl⟩
      refine X_seq ?_
      refine X_sr (lx_ok γ) ?_
      simp -implicitDefEqProofs only [go_sem, seval, f2, f3, hi1]
      refine X_cond (lx_ok γ) ?_
      simp -implicitDefEqProofs only [go_sem, seval, f2, f3, hi1]
      have h := hk1 _ (.inl hn1)
      refine X_exit ?_
      try simp -implicitDefEqProofs only [go_sem, ↓reduceIte, Nat.reduceEqDiff, reduceCtorEq]
      refine kJ_in ?_ ⟨h, rfl, rfl⟩
      exact To.mv0 (BaseR.refl hob) (by simp) trivial
   ·rw [if_pos f3] at h
    refine X_cond (lx_ok γ) ?_
    simp -implicitDefEqProofs only [go_sem, seval, f2, f3]
    refine X_sr (lx_ok γ) ?_
    simp -implicitDefEqProofs only [go_sem, seval, f2, f3]
    obtain rfl := sI h
    refine X_ret ?_
    simp -implicitDefEqProofs only [go_sem, seval, f2, f3]
    exact Rt.mv0 (BaseR.refl hob) (by simp) (vS)
  ·refine X_reg (lx_ok γ) ?_
   obtain ⟨x20, f46, h⟩ := bindE h
   simp -implicitDefEqProofs only [go_sem, seval, f2]
   refine callV_eq (portolanref03_Great_ok γ _ (by simp -implicitDefEqProofs only [go_sem, seval, f2]; try rfl) f46) rfl rfl ?_
   cases f47 : x20
   ·rw [if_neg (nF f47)] at h
    obtain ⟨x21, f48, h⟩ := bindE h
    simp -implicitDefEqProofs only [go_sem, seval, f2, f47]
    refine callV_eq (shape_Check_ok γ _  f48) rfl rfl ?_
    simp -implicitDefEqProofs only [go_sem, seval, f2, f47]
    refine kJ_in ?_ ⟨(x21 != 0), h, rfl, rfl⟩
    exact To.mv [(0, 0)] (BaseR.refl hob) (by simp) (by decide) (by simp only [go_sem]; exact ⟨VM.refA (j := 0) (t := 0) rfl, vS⟩) ⟨⟨_, rfl, OM.box _ _ ⟨vS, trivial⟩⟩, trivial⟩
   ·rw [if_pos f47] at h
    simp -implicitDefEqProofs only [go_sem, seval, f2, f47]
    refine kJ_in ?_ ⟨true, h, rfl, rfl⟩
    exact To.mv [(0, 0)] (BaseR.refl hob) (by simp) (by decide) (by simp only [go_sem]; exact ⟨VM.refA (j := 0) (t := 0) rfl, vS⟩) ⟨⟨_, rfl, OM.box _ _ ⟨vS, trivial⟩⟩, trivial⟩
end Go.Pf
end
