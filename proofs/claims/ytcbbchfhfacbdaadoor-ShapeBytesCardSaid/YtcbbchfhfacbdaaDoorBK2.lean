/- Each function computes what its plain one says, part 2 -/
import Derived.Laws.Rows
import Derived.Lib.Walk
import Derived.OpenShut
import Derived.ProofKit
import Derived.WalkKit
import Derived.Test.YtcbbchfhfacbdaaDoorBK1
set_option linter.all false
section
/- The fixed fact of the laws of shapes: alive. -/
namespace Go.Pf
open Go Go.Ab Go.Pp Go.Proofs Go.Proofs.S04
set_option maxRecDepth 100000
def tinyW (w : World) : World :=
  (((((w.alloc (.cells #[.slice (some ⟨w.heap.size + 1 + 1 + 1 + 1 + 1, 0, none⟩) 1 1] 24)).alloc (.cells #[.int .i64 0] 3)).alloc (.cells #[.int .i64 (-1)] 3)).alloc
    (.cells #[.int .i64 1, .int .i64 0, .int .i64 0, .int .i64 0, .int .i64 5, .int .i64 0, .slice none 0 0, .int .i64 23, .int .i64 0, .int .i64 0, .int .i64 0, .int .i64 0, .int .i64 0, .slice none 0 0] 35)).alloc
    (.cells #[.slice (some ⟨w.heap.size + 1 + 1 + 1, 0, none⟩) 2 2] 44)).alloc
    (.cells #[.slice (some ⟨w.heap.size + 1, 0, none⟩) 1 1, .slice (some ⟨w.heap.size + 1 + 1, 0, none⟩) 1 1, .int .i64 0, .int .i64 0, .slice (some ⟨w.heap.size + 1 + 1 + 1 + 1, 0, none⟩) 1 1] 31)
theorem al_get (w : World) (o : Obj) (i : Nat) : (w.alloc o).heap[i]? = if i = w.heap.size then some o else w.heap[i]? := by
  simp only [World.alloc, Array.getElem?_push]
theorem al_size (w : World) (o : Obj) : (w.alloc o).heap.size = w.heap.size + 1 := by simp only [World.alloc, Array.size_push]
theorem tiny_calls (w : World) : Calls Tryd.prog 34 #[] w fun e w' => e = .returned (.agg #[.slice (some ⟨w.heap.size + 1 + 1 + 1 + 1 + 1, 0, none⟩) 1 1]) ∧ w' = tinyW w := by
  go_enter Tryd.func34, Tryd.ntmps34
  go_wp2
  refine bodyPost_ret (results_cell_row rfl _ _ w.heap.size 24 #[.slice (some ⟨w.heap.size + 1 + 1 + 1 + 1 + 1, 0, none⟩) 1 1] (0, 0) _ rfl (by rw [al_get, if_neg (by simp only [al_size]; omega), al_get, if_neg (by simp only [al_size]; omega), al_get, if_neg (by simp only [al_size]; omega), al_get, if_neg (by simp only [al_size]; omega), al_get, if_neg (by simp only [al_size]; omega), al_get, if_pos rfl]) Tryd.underlying24 rfl (by kernel_rfl)) rfl ?_
  exact ⟨rfl, rfl⟩

theorem TR_arr {M : Mem} {b : Nat} {arr : Array Value} {T : TypeId} {fr : Nat × Nat} {k n : Nat} {es : List (List Tr)} (hM : M b = some (.cells arr T fr)) (hn : es.length = n) (hk : ∀ e ∈ es, e.length = k) (hl : n * k = arr.size)
    (hT : ∀ i e j t, es[i]? = some e → e[j]? = some t → TR M t (arr.getD (i * k + j) undef)) : TR M (.sl k false es) (.slice (some ⟨b, 0, none⟩) n n) := by
  subst hn
  refine .sl k false es b 0 es.length (fun i j => arr.getD (i * k + j) undef) (by simp) (Nat.le_refl _) hk (fun i e j t hi hj => ?_) hT
  have hil := (List.getElem?_eq_some_iff.1 hi).1
  have hjl := (List.getElem?_eq_some_iff.1 hj).1
  have hke := hk e (List.mem_of_getElem? hi)
  have hlt : i * k + j < arr.size := by
    rw [← hl]
    have : (i + 1) * k ≤ es.length * k := Nat.mul_le_mul_right k hil
    rw [Nat.add_mul] at this; omega
  simp only [Mem.cell, hM, Nat.zero_add]
  rw [Array.getElem?_eq_getElem hlt]
  simp [Array.getD, hlt]
def insC : Ins := ⟨1, 0, 0, 0, 5, 0, []⟩
def insR (op : Int) : Ins := ⟨op, 0, 0, 0, 0, 0, []⟩
def progT (op : Int) : Prog := ⟨[⟨[0], [-1], 0, 0, [⟨[insC, insR op]⟩]⟩]⟩
/-- the blocks of a tiny program, from n on -/
structure TinyAt (w : World) (n : Nat) (op : Int) : Prop where
  h1 : w.heap[n]? = some (.cells #[.int .i64 0] 3)
  h2 : w.heap[n + 1]? = some (.cells #[.int .i64 (-1)] 3)
  h3 : w.heap[n + 2]? = some (.cells #[.int .i64 1, .int .i64 0, .int .i64 0, .int .i64 0, .int .i64 5, .int .i64 0, .slice none 0 0, .int .i64 op, .int .i64 0, .int .i64 0, .int .i64 0, .int .i64 0, .int .i64 0, .slice none 0 0] 35)
  h4 : w.heap[n + 3]? = some (.cells #[.slice (some ⟨n + 2, 0, none⟩) 2 2] 44)
  h5 : w.heap[n + 4]? = some (.cells #[.slice (some ⟨n, 0, none⟩) 1 1, .slice (some ⟨n + 1, 0, none⟩) 1 1, .int .i64 0, .int .i64 0, .slice (some ⟨n + 3, 0, none⟩) 1 1] 31)
theorem TinyAt.same {w w' : World} {n : Nat} {op : Int} (h : TinyAt w n op) (hs : SameW w w') : TinyAt w' n op := by
  have lt : ∀ {b : Nat} {y : Obj}, w.heap[b]? = some y → w'.heap[b]? = some y := fun {b y} hb => by rw [hs.block b (Array.getElem?_eq_some_iff.1 hb).1]; exact hb
  exact ⟨lt h.h1, lt h.h2, lt h.h3, lt h.h4, lt h.h5⟩
theorem TinyAt.tree {w : World} {n : Nat} {op : Int} (h : TinyAt w n op) : TR (memOf w) (.sl 5 false (List.map e_Func (progT op).Funcs)) (.slice (some ⟨n + 4, 0, none⟩) 1 1) := by
  have a1 : TR (memOf w) (.sl 1 false (List.map (eI .i64) [0])) (.slice (some ⟨n, 0, none⟩) 1 1) := TR_arr (M := memOf w) h.h1 rfl (by simp [eI]) rfl (fun i e j t hi hj => by
    rcases i with _ | i <;> simp [eI] at hi
    subst hi
    rcases j with _ | j <;> simp at hj
    subst hj; exact .lit _ rfl)
  have a2 : TR (memOf w) (.sl 1 false (List.map (eI .i64) [-1])) (.slice (some ⟨n + 1, 0, none⟩) 1 1) := TR_arr (M := memOf w) h.h2 rfl (by simp [eI]) rfl (fun i e j t hi hj => by
    rcases i with _ | i <;> simp [eI] at hi
    subst hi
    rcases j with _ | j <;> simp at hj
    subst hj; exact .lit _ rfl)
  have a3 : TR (memOf w) (.sl 7 false (List.map e_Ins [insC, insR op])) (.slice (some ⟨n + 2, 0, none⟩) 2 2) := TR_arr (M := memOf w) h.h3 rfl (by simp [e_Ins]) rfl (fun i e j t hi hj => by
    rcases i with _ | _ | i <;> simp [e_Ins, insC, insR] at hi
    · subst hi
      rcases j with _ | _ | _ | _ | _ | _ | _ | j <;> simp at hj
      all_goals subst hj
      all_goals first | exact .lit _ rfl | exact .nil _ _ _ _ (by simp)
    · subst hi
      rcases j with _ | _ | _ | _ | _ | _ | _ | j <;> simp at hj
      all_goals subst hj
      all_goals first | exact .lit _ rfl | exact .nil _ _ _ _ (by simp))
  have a4 : TR (memOf w) (.sl 1 false (List.map e_Block [⟨[insC, insR op]⟩])) (.slice (some ⟨n + 3, 0, none⟩) 1 1) := TR_arr (M := memOf w) h.h4 rfl (by simp [e_Block]) rfl (fun i e j t hi hj => by
    rcases i with _ | i <;> simp [e_Block] at hi
    subst hi
    rcases j with _ | j <;> simp at hj
    subst hj; exact a3)
  exact TR_arr (M := memOf w) h.h5 rfl (by simp [e_Func, progT]) rfl (fun i e j t hi hj => by
    rcases i with _ | i <;> simp [e_Func, progT] at hi
    subst hi
    rcases j with _ | _ | _ | _ | _ | j <;> simp at hj
    all_goals subst hj
    · exact a1
    · exact a2
    · exact .lit _ rfl
    · exact .lit _ rfl
    · exact a4)
theorem check_plain : shape_Check (progT 23) = some 0 ∧ shape_Check (progT 21) = some 5 := by decide +kernel
theorem last_plain : shape_Last 23 = some true := by decide +kernel
theorem sort2 (a b : Int) : [a, b].mergeSort (fun x y => decide (x ≤ y)) = if a ≤ b then [a, b] else [b, a] := by
  simp [List.mergeSort, List.MergeSort.Internal.splitInTwo, List.merge]
theorem next_plain : shape_Next ⟨22, 0, 0, 0, 3, 1, []⟩ = some [1, 3] := by
  simp only [shape_Next, shape_Next.j1, slices_Sort_int, slices_Compact_int, sort2]
  decide +kernel
theorem Glob.same {w w' : World} {γ : GT} (hg : Glob γ (memOf w)) (h : SameW w w') : Glob γ (memOf w') := by
  exact hg.mono fun b x hb => by
    have hlt : b < w.heap.size := (Array.getElem?_eq_some_iff.1 (show w.heap[b]? = some x from hb)).1
    exact (h.block b hlt).trans hb
theorem check_calls {w : World} {n : Nat} {op r : Int} (hg : Glob gam (memOf w)) (h : TinyAt w n op) (hr : shape_Check (progT op) = some r) :
    Calls Tryd.prog 13 #[.agg #[.slice (some ⟨n + 4, 0, none⟩) 1 1]] w fun e w' => e = .returned (.int .i64 r) ∧ SameW w w' := by
  refine calls_of_valid (L := Lx gam) (shape_Check_ok gam [] hr) hg rfl (fun j c hj => ?_)
  match j, hj with
  | 0, hj =>
    simp at hj; subst hj
    exact .agg _ _ rfl (fun j c hj => by
      match j, hj with
      | 0, hj => simp at hj; subst hj; exact .tr h.tree
      | j + 1, hj => simp at hj)
  | j + 1, hj => simp at hj
theorem last_calls {w : World} (hg : Glob gam (memOf w)) : Calls Tryd.prog 19 #[.int .i64 23] w fun e w' => e = .returned (.bool true) ∧ SameW w w' := by
  refine calls_of_valid (L := Lx gam) (shape_Last_ok gam [] last_plain) hg rfl (fun j c hj => ?_)
  match j, hj with
  | 0, hj => simp at hj; subst hj; exact .tr (.lit _ rfl)
  | j + 1, hj => simp at hj
end Go.Pf
end
section
/- The fixed fact of the laws of shapes: alive, whole. -/
namespace Go.Pf
open Go Go.Ab Go.Pp Go.Proofs Go.Proofs.S04
set_option maxRecDepth 100000
theorem SameW.trans {a b c : World} (h : SameW a b) (k : SameW b c) : SameW a c :=
  ⟨k.os.trans h.os, k.tape.trans h.tape, k.output.trans h.output, Nat.le_trans h.size k.size, fun i hi => (k.block i (Nat.lt_of_lt_of_le hi h.size)).trans (h.block i hi)⟩
theorem SameW.alloc (w : World) (o : Obj) : SameW w (w.alloc o) := ⟨rfl, rfl, rfl, by rw [al_size]; omega, fun b hb => by rw [al_get, if_neg (by omega)]⟩
theorem next_calls {W : World} (hg : Glob gam (memOf W)) :
    Calls Tryd.prog 24 #[.agg #[.int .i64 22, .int .i64 0, .int .i64 0, .int .i64 0, .int .i64 3, .int .i64 1, .slice none 0 0]] W fun e W' =>
      ∃ b st c, e = .returned (.slice (some ⟨b, st, none⟩) 2 c) ∧ W'.cell? ⟨b, st, none⟩ = some (.int .i64 1) ∧ b < W'.heap.size ∧ SameW W W' := by
  have I : Inv (FB (fun _ => none) []) W.heap.size W (memOf W) (fun _ => none) [] :=
    ⟨fun b y h => h, fun o y h => by simp [getO] at h, fun o o' y y' b h => by simp [getO] at h, fun o y b h => by simp [getO] at h, fun o y b h => by simp [getO] at h, fun o g h => by cases h⟩
  have hv := shape_Next_ok gam [] (a0 := ⟨22, 0, 0, 0, 3, 1, []⟩) (v0_6 := V.tr (.sl 0 true [])) (by rfl) next_plain
  refine (hv.2.2 W (memOf W) (fun _ => none) _ I hg rfl (fun j c hj => ?_)).mono ?_
  · match j, hj with
    | 0, hj =>
      simp at hj; subst hj
      refine .agg _ _ rfl (fun j c hj => ?_)
      match j, hj with
      | 0, hj => simp at hj; subst hj; exact .tr (.lit _ rfl)
      | 1, hj => simp at hj; subst hj; exact .tr (.lit _ rfl)
      | 2, hj => simp at hj; subst hj; exact .tr (.lit _ rfl)
      | 3, hj => simp at hj; subst hj; exact .tr (.lit _ rfl)
      | 4, hj => simp at hj; subst hj; exact .tr (.lit _ rfl)
      | 5, hj => simp at hj; subst hj; exact .tr (.lit _ rfl)
      | 6, hj => simp at hj; subst hj; exact .tr (.nil _ _ _ _ (by simp))
      | j + 7, hj => simp at hj
    | j + 1, hj => simp at hj
  · rintro e w' ⟨r, M', G', rfl, hM, _, hr, I2, fr, _⟩
    have hx : getO ([] ++ [some (O.row 1 0 (List.map (eI .i64) [1, 3]))]) 0 = some (O.row 1 0 (List.map eN [1, 3])) := rfl
    obtain ⟨b, st, ri, f, h1, h2, h3, h4, h5, h6, h7, _⟩ := row_put I2 hx (by simp)
    obtain ⟨a, rfl, hra⟩ := row_slice (o := 0) (ver := 0) (len := 2) hr h1 h2
    have h7' : 2 ≤ ri.cap := by simpa using h7
    obtain ⟨b', st', e1, e2⟩ := hra (by omega)
    rw [h3] at e1; cases e1
    rw [Nat.zero_mul, Nat.add_zero] at e2
    subst e2
    refine ⟨b, st, _, rfl, (h5 0 (by simp)).1, h6, fr.os, fr.tape, fr.output, fr.size, fun b hb => fr.block b hb ?_⟩
    rintro ⟨o, y, h, _⟩
    simp [getO] at h
end Go.Pf
end
section
/- The fixed fact of the laws of shapes: its walk. -/
namespace Go.Pf
open Go Go.Ab Go.Pp Go.Proofs Go.Proofs.S04
set_option maxRecDepth 100000
theorem SameW.refl' (w : World) : SameW w w := ⟨rfl, rfl, rfl, Nat.le_refl _, fun _ _ => rfl⟩
def allocs (w : World) (l : List Obj) : World := l.foldl World.alloc w
theorem allocs_size : ∀ (l : List Obj) (w : World), (allocs w l).heap.size = w.heap.size + l.length
  | [], w => rfl
  | o :: l, w => by
    have := allocs_size l (w.alloc o)
    rw [al_size] at this
    simp only [allocs, List.foldl_cons, List.length_cons] at *
    omega
theorem allocs_old : ∀ (l : List Obj) (w : World) (i : Nat), i < w.heap.size → (allocs w l).heap[i]? = w.heap[i]?
  | [], w, i, h => rfl
  | o :: l, w, i, h => by
    have := allocs_old l (w.alloc o) i (by rw [al_size]; omega)
    rw [al_get, if_neg (by omega)] at this
    exact this
theorem allocs_get : ∀ (l : List Obj) (w : World) (i : Nat), i < l.length → (allocs w l).heap[w.heap.size + i]? = l[i]?
  | [], w, i, h => by simp at h
  | o :: l, w, 0, h => by
    have := allocs_old l (w.alloc o) w.heap.size (by rw [al_size]; omega)
    rw [al_get, if_pos rfl] at this
    exact this
  | o :: l, w, i + 1, h => by
    have := allocs_get l (w.alloc o) i (by simpa using h)
    rw [al_size] at this
    rw [show w.heap.size + (i + 1) = w.heap.size + 1 + i by omega]
    exact this
theorem allocs_same (l : List Obj) (w : World) : SameW w (allocs w l) := by
  induction l generalizing w with
  | nil => exact SameW.refl' w
  | cons o l ih => exact SameW.trans (SameW.alloc w o) (ih _)
def objsA (n : Nat) : List Obj :=
  let t := fun (m : Nat) (op : Int) => [Obj.cells #[.slice (some ⟨m + 5, 0, none⟩) 1 1] 24, .cells #[.int .i64 0] 3, .cells #[.int .i64 (-1)] 3,
    .cells #[.int .i64 1, .int .i64 0, .int .i64 0, .int .i64 0, .int .i64 5, .int .i64 0, .slice none 0 0, .int .i64 op, .int .i64 0, .int .i64 0, .int .i64 0, .int .i64 0, .int .i64 0, .slice none 0 0] 35,
    .cells #[.slice (some ⟨m + 3, 0, none⟩) 2 2] 44,
    .cells #[.slice (some ⟨m + 1, 0, none⟩) 1 1, .slice (some ⟨m + 2, 0, none⟩) 1 1, .int .i64 0, .int .i64 0, .slice (some ⟨m + 4, 0, none⟩) 1 1] 31,
    .cells #[.slice (some ⟨m + 5, 0, none⟩) 1 1] 24]
  t n 23 ++ t (n + 7) 21
theorem cell_heap {w : World} {b : Nat} {arr : Array Value} {T : TypeId} {fr : Nat × Nat} (h : w.heap[b]? = some (.cells arr T fr)) (off : Nat) : w.cell? ⟨b, off, none⟩ = arr[off]? := by
  simp [World.cell?, h]
theorem cell_same {w w' : World} (h : SameW w w') {b off : Nat} (hb : b < w.heap.size) : w'.cell? ⟨b, off, none⟩ = w.cell? ⟨b, off, none⟩ := by
  unfold World.cell?
  simp only [h.block b hb]
structure Facts (w w1 : World) : Prop where
  p : w1.cell? ⟨w.heap.size + 6, 0, none⟩ = some (.slice (some ⟨w.heap.size + 5, 0, none⟩) 1 1)
  q : w1.cell? ⟨w.heap.size + 13, 0, none⟩ = some (.slice (some ⟨w.heap.size + 12, 0, none⟩) 1 1)
  t1 : TinyAt w1 (w.heap.size + 1) 23
  t2 : TinyAt w1 (w.heap.size + 8) 21
  s : SameW w w1
  n : w.heap.size + 14 ≤ w1.heap.size
theorem Facts.same {w w1 w2 : World} (h : Facts w w1) (hs : SameW w1 w2) : Facts w w2 :=
  ⟨by rw [cell_same hs (by have := h.n; omega)]; exact h.p, by rw [cell_same hs (by have := h.n; omega)]; exact h.q, h.t1.same hs, h.t2.same hs, SameW.trans h.s hs, Nat.le_trans h.n hs.size⟩
theorem facts0 (w : World) : Facts w (allocs w (objsA w.heap.size)) := by
  have g := fun i hi => allocs_get (objsA w.heap.size) w i hi
  exact ⟨by rw [cell_heap (g 6 (by simp [objsA]))]; rfl, by rw [cell_heap (g 13 (by simp [objsA]))]; rfl, ⟨g 1 (by simp [objsA]), g 2 (by simp [objsA]), g 3 (by simp [objsA]), g 4 (by simp [objsA]), g 5 (by simp [objsA])⟩, ⟨g 8 (by simp [objsA]), g 9 (by simp [objsA]), g 10 (by simp [objsA]), g 11 (by simp [objsA]), g 12 (by simp [objsA])⟩, allocs_same _ w, by rw [allocs_size]; exact Nat.le_refl _⟩
set_option maxHeartbeats 400000 in
theorem alive_calls (w : World) (hg : Glob gam (memOf w)) : Calls Tryd.prog 9 #[] w fun e w' => e = .returned (.bool true) ∧ SameW w w' := by
  go_enter Tryd.func9, Tryd.ntmps9
  go_wp2_with (first
    | (go_at_call 34; refine (tiny_calls _).mono ?_; rintro e w' ⟨rfl, rfl⟩; unfold tinyW)
    | (go_at_call 24; refine (next_calls (Glob.same hg (facts0 w).s)).mono ?_; rintro e w1 ⟨b, st, c, rfl, hc, hb, hs⟩
       obtain ⟨p1, q1, t1, t2, s1, n1⟩ := (facts0 w).same hs; clear hs))
  have X := check_calls (Glob.same hg s1) t1 check_plain.1
  refine Calls.mono X ?_
  rintro e w2 ⟨rfl, hs⟩
  clear X
  obtain ⟨p2, q2, _, t2', s2, n2⟩ := Facts.same ⟨p1, q1, t1, t2, s1, n1⟩ hs
  have hc2 := (cell_same hs hb).trans hc
  have hb2 := Nat.lt_of_lt_of_le hb hs.size
  clear hs p1 q1 t1 t2 s1 n1 hc hb
  go_wp2_with (fail)
  have X := check_calls (Glob.same hg s2) t2' check_plain.2
  refine Calls.mono X ?_
  rintro e w3 ⟨rfl, hs⟩
  clear X
  have hc := (cell_same hs hb2).trans hc2
  have hb := Nat.lt_of_lt_of_le hb2 hs.size
  have s3 := SameW.trans s2 hs
  clear hs p2 q2 t2' s2 n2 hc2 hb2
  go_wp2_with (fail)
  have X := last_calls (Glob.same hg s3)
  refine Calls.mono X ?_
  rintro e w4 ⟨rfl, hs⟩
  clear X
  have hc2 := (cell_same hs hb).trans hc
  have s4 := SameW.trans s3 hs
  clear hs s3 hc hb
  go_wp2
  go_ret
  exact ⟨rfl, s4⟩
theorem Inv.same {F : Nat → Prop} {n0 : Nat} {w w' : World} {M : Mem} {G : Gh} {ob : OT} (I : Inv F n0 w M G ob) (hs : SameW w w') : Inv F n0 w' M G ob :=
  ⟨fun b x hb => by rw [hs.block b (I.memlt hb)]; exact I.mem b x hb, fun o x hx => (I.obj o x hx).mono (Mle.refl _) (Gle.refl _) rfl (fun b hb => hs.block b (I.lt hx hb)), I.dis, I.off, I.own, I.dom⟩
theorem portolanlaw04_alive_ok (γ : GT) (ob : OT) {r : Bool} (h : portolanlaw04_alive = some r) : Valid (Lx γ) 9 [] ob (vbool r) ob := by
  cases h
  refine ⟨⟨⟨Tryd.f9, Tryd.func9, by kernel_rfl, rfl⟩⟩, Nat.le_refl _, fun w M G rs I hg hl ha => ?_⟩
  have : rs = #[] := Array.eq_empty_of_size_eq_zero hl.symm
  subst this
  refine (alive_calls w (hg.mono fun b x hb => I.mem b x hb)).mono ?_
  rintro e w' ⟨rfl, hs⟩
  exact ⟨_, M, G, rfl, Mle.refl _, Gle.refl _, .tr (.lit _ rfl), Inv.same I hs, ⟨hs.os, hs.tape, hs.output, hs.size, fun b hb _ => hs.block b hb⟩, fun _ _ h => h⟩
end Go.Pf
end
section
set_option maxRecDepth 100000
namespace Go.Pf
open Go Go.Ab Go.Pp Go.Proofs Go.Proofs.S04
attribute [local go_sem] Lxτ Lxγ gam0 Int.toNat_natCast  eI eB eS e_Ins e_Block e_Func e_Prog e_code_writer e_code_reader e_Edge

end Go.Pf
end
section
set_option maxRecDepth 100000
namespace Go.Pf
open Go Go.Ab Go.Pp Go.Proofs Go.Proofs.S04
attribute [local go_sem] Lxτ Lxγ gam0 Int.toNat_natCast List.append_eq List.cons_append List.nil_append tau3 tau22 tau24 tau28 tau29 tau31 tau35 tau42 tau44 eI eB eS e_Ins e_Block e_Func e_Prog e_code_writer e_code_reader e_Edge
set_option maxHeartbeats 1000000 in
theorem portolanref03_Great_ok (γ : GT) (ob : OT) {a0 : Prog} {v0_0 : V} (hv0_0 : rdK (getO ob) 5 v0_0 = some (List.map e_Func a0.Funcs)) {r : Bool} (h : portolanref03_Great a0 = some r) :
  Valid (Lx γ) 10 [V.agg [v0_0]] ob (vbool r) ob := by
 refine valid_X (lx_ok γ) (fn := Tryd.f10) (rs := [.tmp 2]) Tryd.func10 (by kernel_rfl) rfl rfl Tryd.ntmps10 rfl (by simp) fun hb hob => ?_
 have hq := rd4 hv0_0
 rw [portolanref03_Great] at h
 refine X_sr (lx_ok γ) ?_
 simp -implicitDefEqProofs only [go_sem, seval, hq]
 refine X_sr (lx_ok γ) ?_
 simp -implicitDefEqProofs only [go_sem, seval, hq]
 refine X_seq ?_
 refine X_sr (lx_ok γ) ?_
 simp -implicitDefEqProofs only [go_sem, seval, hq]
 refine X_jq (J := fun as1 ob1 => ∃ (x1 : Int), portolanref03_Great.k1 x1 = some r ∧ [(3, vint .i64 x1)] = as1 ∧ ob = ob1) ?_ ?_
 ·rintro as1 ob1 ⟨x1, h, rfl, rfl⟩
  rw [portolanref03_Great.k1] at h
  simp -implicitDefEqProofs only [go_sem, seval, hq]
  refine X_sr (lx_ok γ) ?_
  simp -implicitDefEqProofs only [go_sem, seval, hq]
  obtain rfl := sI h
  refine X_ret ?_
  simp -implicitDefEqProofs only [go_sem, seval, hq]
  exact Rt.mv1 (BaseR.refl hob) (by simp) (vS)
 ·refine X_block ?_
  obtain ⟨lr1, hl1, hk1, hr1⟩ := aft2 h
  refine X_forN hl1 (fun (i1 : Nat) (s : Int) as1 ob1 => [(1, V.ref ob.length 0), (3, vint .i64 s), (4, vint .i64 (i1 : Int))] = as1 ∧ ob ++ [some (O.box [v0_0])] = ob1) ⟨_, _, ?_, rfl, rfl⟩ ?_ ?_
  ·exact To.mv [(0, 0)] (BaseR.refl hob) (by simp) (by decide) (by simp only [go_sem]; exact ⟨VM.refA (j := 0) (t := 0) rfl, vS, VM.eqv (by simp) (by simp)⟩) ⟨⟨_, rfl, OM.box _ _ ⟨VM.self (by simpa using Bd.of_rdK hv0_0), trivial⟩⟩, trivial⟩
  ·rintro i1 x1 o1 hi1 hw1 h ho1 as1 ob1 ⟨rfl, rfl⟩
   rw [portolanref03_Great.b1] at h
   refine X_seq ?_
   refine X_sr (lx_ok γ) ?_
   simp -implicitDefEqProofs only [go_sem, seval, hi1, hq]
   cases f1 : decide (x1 ≤ 3000)
   ·rw [if_neg (nF f1)] at h
    refine X_cond (lx_ok γ) ?_
    simp -implicitDefEqProofs only [go_sem, seval, hi1, f1, hq]
    obtain rfl := sI h
    have h := hk1 _ (.inr (ho1 (fun _ hs => nomatch hs)))
    refine X_exit ?_
    try simp -implicitDefEqProofs only [go_sem, ↓reduceIte, Nat.reduceEqDiff, reduceCtorEq]
    refine kJ_in ?_ ⟨x1, h, rfl, rfl⟩
    exact To.mv0 (BaseR.refl hob) (by simp) (by simp only [go_sem]; exact vS)
   ·rw [if_pos f1] at h
    refine X_cond (lx_ok γ) ?_
    simp -implicitDefEqProofs only [go_sem, seval, hi1, f1, hq]
    refine X_skip ?_
    try simp -implicitDefEqProofs only [go_sem]
    refine X_seq ?_
    refine X_block ?_
    refine X_sr (lx_ok γ) ?_
    obtain ⟨x3, f2, h⟩ := bindE h
    obtain ⟨f3, f4⟩ := ixL_nat f2
    have f5 : (0 : Int) ≤ (i1 : Int) := Int.natCast_nonneg _
    simp -implicitDefEqProofs only [go_sem, seval, hi1, f1, hq, f3, f4, f5]
    refine X_sr (lx_ok γ) ?_
    simp -implicitDefEqProofs only [go_sem, seval, hi1, f1, hq]
    refine X_sr (lx_ok γ) ?_
    simp -implicitDefEqProofs only [go_sem, seval, hi1, f1, hq]
    refine X_jq (J := fun as1 ob1 => ∃ (x4 : Int), portolanref03_Great.k2 x4 = some o1 ∧ [(1, V.ref ob.length 0), (3, vint .i64 x4), (4, vint .i64 (i1 : Int))] = as1 ∧ ob ++ [some (O.box [v0_0])] = ob1) ?_ ?_
    ·rintro as1 ob1 ⟨x4, h, rfl, rfl⟩
     rw [portolanref03_Great.k2] at h
     simp -implicitDefEqProofs only [go_sem, seval, hi1, f1, hq]
     refine X_reg (lx_ok γ) ?_
     obtain rfl := sI h
     simp -implicitDefEqProofs only [go_sem, seval, hi1, f1, hq]
     refine kR_in rfl ?_ ⟨rfl, rfl⟩
     exact To.mv [(0, 0)] (BaseR.refl hob) (by simp) (by decide) (by simp only [go_sem]; exact ⟨VM.refA (j := 0) (t := 0) rfl, vS, VM.eqv (by rw [hw1]) (by simp)⟩) ⟨⟨_, rfl, OM.box _ _ ⟨VM.self (by simpa using Bd.of_rdK hv0_0), trivial⟩⟩, trivial⟩
    ·refine X_block ?_
     obtain ⟨lr2, hl2, hk2, hr2⟩ := aft2 h
     refine X_forN hl2 (fun (i2 : Nat) (s : Int) as1 ob1 => [(1, V.ref ob.length 0), (3, vint .i64 s), (4, vint .i64 (i1 : Int)), (5, V.ref (ob.length + 1) 0), (6, vint .i64 (i2 : Int))] = as1 ∧ ob ++ [some (O.box [v0_0]), some (O.box [V.tr (.sl 1 false (List.map (eI .i64) x3.Kinds)), V.tr (.sl 1 false (List.map (eI .i64) x3.Base)), vint .i64 x3.Params, vint .i64 x3.Result, V.tr (.sl 1 false (List.map e_Block x3.Blocks))])] = ob1) ⟨_, _, ?_, rfl, rfl⟩ ?_ ?_
     ·exact To.mv [(0, 0), (1, 0)] (BaseR.refl hob) (by simp) (by decide) (by simp only [go_sem]; exact ⟨VM.refA (j := 0) (t := 0) rfl, vS, vS, VM.refA (j := 1) (t := 1) rfl, VM.eqv (by simp) (by simp)⟩) ⟨⟨_, rfl, OM.box _ _ ⟨VM.self (by simpa using Bd.of_rdK hv0_0), trivial⟩⟩, ⟨_, rfl, OM.box _ _ ⟨vS, vS, vS, vS, vS, trivial⟩⟩, trivial⟩
     ·rintro i2 x4 o2 hi2 hw2 h ho2 as1 ob1 ⟨rfl, rfl⟩
      rw [portolanref03_Great.b2] at h
      refine X_seq ?_
      refine X_sr (lx_ok γ) ?_
      simp -implicitDefEqProofs only [go_sem, seval, hi1, f1, hi2, hq]
      cases f6 : decide (x4 ≤ 3000)
      ·rw [if_neg (nF f6)] at h
       refine X_cond (lx_ok γ) ?_
       simp -implicitDefEqProofs only [go_sem, seval, hi1, f1, hi2, f6, hq]
       obtain rfl := sI h
       have h := hk2 _ (.inr (ho2 (fun _ hs => nomatch hs)))
       refine X_exit ?_
       try simp -implicitDefEqProofs only [go_sem, ↓reduceIte, Nat.reduceEqDiff, reduceCtorEq]
       refine kJ_in ?_ ⟨x4, h, rfl, rfl⟩
       exact To.mv [(0, 0)] (BaseR.refl hob) (by simp) (by decide) (by simp only [go_sem]; exact ⟨VM.refA (j := 0) (t := 0) rfl, vS, vS⟩) ⟨⟨_, rfl, OM.box _ _ ⟨VM.self (by simpa using Bd.of_rdK hv0_0), trivial⟩⟩, trivial⟩
      ·rw [if_pos f6] at h
       refine X_cond (lx_ok γ) ?_
       simp -implicitDefEqProofs only [go_sem, seval, hi1, f1, hi2, f6, hq]
       refine X_skip ?_
       try simp -implicitDefEqProofs only [go_sem]
       refine X_seq ?_
       refine X_block ?_
       refine X_sr (lx_ok γ) ?_
       obtain ⟨x6, f7, h⟩ := bindE h
       obtain ⟨f8, f9⟩ := ixL_nat f7
       have f10 : (0 : Int) ≤ (i2 : Int) := Int.natCast_nonneg _
       simp -implicitDefEqProofs only [go_sem, seval, hi1, f1, hi2, f6, hq, f8, f9, f10]
       refine X_sr (lx_ok γ) ?_
       simp -implicitDefEqProofs only [go_sem, seval, hi1, f1, hi2, f6, hq]
       refine X_jq (J := fun as1 ob1 => ∃ (x7 : Int), portolanref03_Great.k3 x7 = some o2 ∧ [(1, V.ref ob.length 0), (3, vint .i64 x7), (4, vint .i64 (i1 : Int)), (5, V.ref (ob.length + 1) 0), (6, vint .i64 (i2 : Int))] = as1 ∧ ob ++ [some (O.box [v0_0]), some (O.box [V.tr (.sl 1 false (List.map (eI .i64) x3.Kinds)), V.tr (.sl 1 false (List.map (eI .i64) x3.Base)), vint .i64 x3.Params, vint .i64 x3.Result, V.tr (.sl 1 false (List.map e_Block x3.Blocks))])] = ob1) ?_ ?_
       ·rintro as1 ob1 ⟨x7, h, rfl, rfl⟩
        rw [portolanref03_Great.k3] at h
        simp -implicitDefEqProofs only [go_sem, seval, hi1, f1, hi2, f6, hq]
        refine X_reg (lx_ok γ) ?_
        obtain rfl := sI h
        simp -implicitDefEqProofs only [go_sem, seval, hi1, f1, hi2, f6, hq]
        refine kR_in rfl ?_ ⟨rfl, rfl⟩
        exact To.mv [(0, 0), (1, 0)] (BaseR.refl hob) (by simp) (by decide) (by simp only [go_sem]; exact ⟨VM.refA (j := 0) (t := 0) rfl, vS, vS, VM.refA (j := 1) (t := 1) rfl, VM.eqv (by rw [hw2]) (by simp)⟩) ⟨⟨_, rfl, OM.box _ _ ⟨VM.self (by simpa using Bd.of_rdK hv0_0), trivial⟩⟩, ⟨_, rfl, OM.box _ _ ⟨vS, vS, vS, vS, vS, trivial⟩⟩, trivial⟩
       ·refine X_block ?_
        obtain ⟨lr3, hl3, hk3, hr3⟩ := aft2 h
        refine X_while hl3 (fun (s : Int × Int) as1 ob1 => [(1, V.ref ob.length 0), (3, vint .i64 s.1), (4, vint .i64 (i1 : Int)), (5, V.ref (ob.length + 1) 0), (6, vint .i64 (i2 : Int)), (7, vint .i64 s.2)] = as1 ∧ ob ++ [some (O.box [v0_0]), some (O.box [V.tr (.sl 1 false (List.map (eI .i64) x3.Kinds)), V.tr (.sl 1 false (List.map (eI .i64) x3.Base)), vint .i64 x3.Params, vint .i64 x3.Result, V.tr (.sl 1 false (List.map e_Block x3.Blocks))])] = ob1) ⟨_, _, ?_, rfl, rfl⟩ ?_
        ·exact To.mv [(0, 0), (1, 0)] (BaseR.refl hob) (by simp) (by decide) (by simp only [go_sem]; exact ⟨VM.refA (j := 0) (t := 0) rfl, vS, vS, VM.refA (j := 1) (t := 1) rfl, vS, vS⟩) ⟨⟨_, rfl, OM.box _ _ ⟨VM.self (by simpa using Bd.of_rdK hv0_0), trivial⟩⟩, ⟨_, rfl, OM.box _ _ ⟨vS, vS, vS, vS, vS, trivial⟩⟩, trivial⟩
        ·rintro ⟨x7, x8⟩ o3 h ho3 as1 ob1 ⟨rfl, rfl⟩
         rw [portolanref03_Great.b3] at h
         refine X_seq ?_
         refine X_seq ?_
         refine X_jq (J := fun as1 ob1 => ∃ (x10 : Bool), portolanref03_Great.j1 x3 x7 x8 x10 i2 = some o3 ∧ [(1, V.ref ob.length 0), (3, vint .i64 x7), (4, vint .i64 (i1 : Int)), (5, V.ref (ob.length + 1) 0), (6, vint .i64 (i2 : Int)), (7, vint .i64 x8), (72, vbool x10)] = as1 ∧ ob ++ [some (O.box [v0_0]), some (O.box [V.tr (.sl 1 false (List.map (eI .i64) x3.Kinds)), V.tr (.sl 1 false (List.map (eI .i64) x3.Base)), vint .i64 x3.Params, vint .i64 x3.Result, V.tr (.sl 1 false (List.map e_Block x3.Blocks))])] = ob1) ?_ ?_
         ·rintro as1 ob1 ⟨x10, h, rfl, rfl⟩
          rw [portolanref03_Great.j1] at h
          simp -implicitDefEqProofs only [go_sem, seval, hi1, f1, hi2, f6, hq]
          cases f11 : x10
          ·rw [if_neg (nF f11)] at h
           refine X_cond (lx_ok γ) ?_
           simp -implicitDefEqProofs only [go_sem, seval, hi1, f1, hi2, f6, f11, hq]
           obtain rfl := sI h
           have h := hk3 _ (.inr (ho3 (fun _ hs => nomatch hs)))
           refine X_exit ?_
           try simp -implicitDefEqProofs only [go_sem, ↓reduceIte, Nat.reduceEqDiff, reduceCtorEq]
           refine kJ_in ?_ ⟨x7, h, rfl, rfl⟩
           exact To.mv [(0, 0), (1, 0)] (BaseR.refl hob) (by simp) (by decide) (by simp only [go_sem]; exact ⟨VM.refA (j := 0) (t := 0) rfl, vS, vS, VM.refA (j := 1) (t := 1) rfl, vS⟩) ⟨⟨_, rfl, OM.box _ _ ⟨VM.self (by simpa using Bd.of_rdK hv0_0), trivial⟩⟩, ⟨_, rfl, OM.box _ _ ⟨vS, vS, vS, vS, vS, trivial⟩⟩, trivial⟩
          ·rw [if_pos f11] at h
           refine X_cond (lx_ok γ) ?_
           simp -implicitDefEqProofs only [go_sem, seval, hi1, f1, hi2, f6, f11, hq]
           refine X_skip ?_
           try simp -implicitDefEqProofs only [go_sem]
           refine X_seq ?_
           refine X_block ?_
           refine X_reg (lx_ok γ) ?_
           obtain ⟨x11, f12, h⟩ := bindE h
           obtain ⟨f13, f14⟩ := ixL_nat f12
           have f15 : (0 : Int) ≤ (i2 : Int) := Int.natCast_nonneg _
           obtain ⟨x12, f16, h⟩ := bindE h
           obtain ⟨f17, f18, f19⟩ := ixL_some f16
           try simp only [Int.toNat_natCast, Int.reduceToNat] at f19
           simp -implicitDefEqProofs only [go_sem, seval, hi1, f1, hi2, f6, f11, hq, f13, f14, f15, f17, f18, f19]
           refine X_reg (lx_ok γ) ?_
           obtain rfl := sI h
           simp -implicitDefEqProofs only [go_sem, seval, hi1, f1, hi2, f6, f11, hq]
           refine kR_in rfl ?_ ⟨rfl, rfl⟩
           exact To.mv [(0, 0), (1, 0)] (BaseR.refl hob) (by simp) (by decide) (by simp only [go_sem]; exact ⟨VM.refA (j := 0) (t := 0) rfl, vS, vS, VM.refA (j := 1) (t := 1) rfl, vS, vS⟩) ⟨⟨_, rfl, OM.box _ _ ⟨VM.self (by simpa using Bd.of_rdK hv0_0), trivial⟩⟩, ⟨_, rfl, OM.box _ _ ⟨vS, vS, vS, vS, vS, trivial⟩⟩, trivial⟩
         ·refine X_reg (lx_ok γ) ?_
          obtain ⟨x13, f20, h⟩ := bindE h
          obtain ⟨f21, f22⟩ := ixL_nat f20
          have f23 : (0 : Int) ≤ (i2 : Int) := Int.natCast_nonneg _
          cases f24 : decide (x8 < (List.length x13.Code : Int))
          ·rw [if_neg (nF f24)] at h
           simp -implicitDefEqProofs only [go_sem, seval, hi1, f1, hi2, f6, f24, hq, f21, f22, f23]
           refine kJ_in ?_ ⟨false, h, rfl, rfl⟩
           exact To.mv [(0, 0), (1, 0)] (BaseR.refl hob) (by simp) (by decide) (by simp only [go_sem]; exact ⟨VM.refA (j := 0) (t := 0) rfl, vS, vS, VM.refA (j := 1) (t := 1) rfl, vS, vS, vS⟩) ⟨⟨_, rfl, OM.box _ _ ⟨VM.self (by simpa using Bd.of_rdK hv0_0), trivial⟩⟩, ⟨_, rfl, OM.box _ _ ⟨vS, vS, vS, vS, vS, trivial⟩⟩, trivial⟩
          ·rw [if_pos f24] at h
           simp -implicitDefEqProofs only [go_sem, seval, hi1, f1, hi2, f6, f24, hq, f21, f22, f23]
           refine kJ_in ?_ ⟨(decide (x7 ≤ 3000)), h, rfl, rfl⟩
           exact To.mv [(0, 0), (1, 0)] (BaseR.refl hob) (by simp) (by decide) (by simp only [go_sem]; exact ⟨VM.refA (j := 0) (t := 0) rfl, vS, vS, VM.refA (j := 1) (t := 1) rfl, vS, vS, vS⟩) ⟨⟨_, rfl, OM.box _ _ ⟨VM.self (by simpa using Bd.of_rdK hv0_0), trivial⟩⟩, ⟨_, rfl, OM.box _ _ ⟨vS, vS, vS, vS, vS, trivial⟩⟩, trivial⟩
     ·rintro i2 x4 hi2 hn2 as1 ob1 ⟨rfl, rfl⟩
      refine X_seq ?_
      refine X_sr (lx_ok γ) ?_
      simp -implicitDefEqProofs only [go_sem, seval, hi1, f1, hi2, hq]
      refine X_condF (lx_ok γ) rfl ?_
      have h := hk2 _ (.inl hn2)
      refine X_exit ?_
      try simp -implicitDefEqProofs only [go_sem, ↓reduceIte, Nat.reduceEqDiff, reduceCtorEq]
      refine kJ_in ?_ ⟨x4, h, rfl, rfl⟩
      exact To.mv [(0, 0)] (BaseR.refl hob) (by simp) (by decide) (by simp only [go_sem]; exact ⟨VM.refA (j := 0) (t := 0) rfl, vS, vS⟩) ⟨⟨_, rfl, OM.box _ _ ⟨VM.self (by simpa using Bd.of_rdK hv0_0), trivial⟩⟩, trivial⟩
  ·rintro i1 x1 hi1 hn1 as1 ob1 ⟨rfl, rfl⟩
   refine X_seq ?_
   refine X_sr (lx_ok γ) ?_
   simp -implicitDefEqProofs only [go_sem, seval, hi1, hq]
   refine X_condF (lx_ok γ) rfl ?_
   have h := hk1 _ (.inl hn1)
   refine X_exit ?_
   try simp -implicitDefEqProofs only [go_sem, ↓reduceIte, Nat.reduceEqDiff, reduceCtorEq]
   refine kJ_in ?_ ⟨x1, h, rfl, rfl⟩
   exact To.mv0 (BaseR.refl hob) (by simp) (by simp only [go_sem]; exact vS)
end Go.Pf
end
section
set_option maxRecDepth 100000
namespace Go.Pf
open Go Go.Ab Go.Pp Go.Proofs Go.Proofs.S04
attribute [local go_sem] Lxτ Lxγ gam0 Int.toNat_natCast tau3 tau28 eI eB eS e_Ins e_Block e_Func e_Prog e_code_writer e_code_reader e_Edge
set_option maxHeartbeats 1000000 in
theorem portolanref01_Ints_ok (γ : GT) (ob : OT) {a0 : List Int} {v0 : V} {a1 : List Int} {v1 : V} (hv0 : rdK (getO ob) 1 v0 = some (List.map (eI .i64) a0)) (hv1 : rdK (getO ob) 1 v1 = some (List.map (eI .i64) a1)) {r : Bool} (h : portolanref01_Ints a0 a1 = some r) :
  Valid (Lx γ) 21 [v0, v1] ob (vbool r) ob := by
 refine valid_X (lx_ok γ) (fn := Tryd.f21) (rs := [.tmp 4]) Tryd.func21 (by kernel_rfl) rfl rfl Tryd.ntmps21 rfl (by simp) fun hb hob => ?_
 have hq := And.intro (rd4 hv0) (rd4 hv1)
 rw [portolanref01_Ints] at h
 refine X_sr (lx_ok γ) ?_
 simp -implicitDefEqProofs only [go_sem, seval, hq]
 refine X_seq ?_
 refine X_sr (lx_ok γ) ?_
 simp -implicitDefEqProofs only [go_sem, seval, hq]
 cases f1 : ((List.length a0 : Int) != (List.length a1 : Int))
 ·rw [if_neg (nF f1)] at h
  refine X_cond (lx_ok γ) ?_
  simp -implicitDefEqProofs only [go_sem, seval, f1, hq]
  refine X_skip ?_
  try simp -implicitDefEqProofs only [go_sem]
  refine X_seq ?_
  refine X_sr (lx_ok γ) ?_
  simp -implicitDefEqProofs only [go_sem, seval, f1, hq]
  refine X_jq (J := fun as1 ob1 => portolanref01_Ints.k1 = some r ∧ [] = as1 ∧ ob = ob1) ?_ ?_
  ·rintro as1 ob1 ⟨h, rfl, rfl⟩
   rw [portolanref01_Ints.k1] at h
   simp -implicitDefEqProofs only [go_sem, seval, f1, hq]
   refine X_sr (lx_ok γ) ?_
   simp -implicitDefEqProofs only [go_sem, seval, f1, hq]
   obtain rfl := sI h
   refine X_ret ?_
   simp -implicitDefEqProofs only [go_sem, seval, f1, hq]
   exact Rt.mv1 (BaseR.refl hob) (by simp) (vS)
  ·refine X_block ?_
   obtain ⟨lr1, hl1, hk1, hr1⟩ := aft2 h
   refine X_forN hl1 (fun (i1 : Nat) (s : Unit) as1 ob1 => [(0, v0), (1, v1), (5, vint .i64 (i1 : Int))] = as1 ∧ ob = ob1) ⟨_, _, ?_, rfl, rfl⟩ ?_ ?_
   ·exact To.mv1 (BaseR.refl hob) (by simp) (by simp only [go_sem]; exact ⟨VM.self (by simpa using Bd.of_rdK hv0), VM.self (by simpa using Bd.of_rdK hv1), VM.eqv (by simp) (by simp)⟩)
   ·rintro i1 _ o1 hi1 hw1 h ho1 as1 ob1 ⟨rfl, rfl⟩
    rw [portolanref01_Ints.b1] at h
    refine X_seq ?_
    refine X_sr (lx_ok γ) ?_
    simp -implicitDefEqProofs only [go_sem, seval, f1, hi1, hq]
    refine X_cond (lx_ok γ) ?_
    simp -implicitDefEqProofs only [go_sem, seval, f1, hi1, hq]
    refine X_skip ?_
    try simp -implicitDefEqProofs only [go_sem]
    refine X_seq ?_
    refine X_block ?_
    refine X_seq ?_
    refine X_drawn (lx_ok γ) [[], [], [0, 1], [0, 1, 2], [], [], [4, 5], [4, 5, 6], [0, 1, 2, 3, 4, 5, 6, 7]] (fun i => match i with | _ => false) (by kernel_rfl) ?_
    obtain ⟨x2, f2, h⟩ := bindE h
    obtain ⟨f3, f4⟩ := ixL_nat f2
    have f5 : (0 : Int) ≤ (i1 : Int) := Int.natCast_nonneg _
    obtain ⟨x3, f6, h⟩ := bindE h
    obtain ⟨f7, f8⟩ := ixL_nat f6
    have f9 : (0 : Int) ≤ (i1 : Int) := Int.natCast_nonneg _
    try simp -implicitDefEqProofs only [go_sem, seval, f1, hi1, hq, f3, f4, f5, f7, f8, f9, cmpr, List.getD_cons_zero, List.getD_cons_succ, List.contains_cons, List.contains_nil, Nat.reduceBEq, Bool.false_or, Bool.or_false, Bool.true_or, Bool.or_true, beq_self_eq_true]
    cases f10 : (x2 != x3)
    ·rw [if_neg (nF f10)] at h
     refine X_cond (lx_ok γ) ?_
     simp -implicitDefEqProofs only [go_sem, seval, f1, hi1, f10, hq, f3, f4, f5, f7, f8, f9]
     refine X_skip ?_
     try simp -implicitDefEqProofs only [go_sem]
     refine X_reg (lx_ok γ) ?_
     obtain rfl := sI h
     simp -implicitDefEqProofs only [go_sem, seval, f1, hi1, f10, hq]
     refine kR_in rfl ?_ ⟨rfl, rfl⟩
     exact To.mv1 (BaseR.refl hob) (by simp) (by simp only [go_sem]; exact ⟨VM.self (by simpa using Bd.of_rdK hv0), VM.self (by simpa using Bd.of_rdK hv1), VM.eqv (by rw [hw1]) (by simp)⟩)
    ·rw [if_pos f10] at h
     refine X_cond (lx_ok γ) ?_
     simp -implicitDefEqProofs only [go_sem, seval, f1, hi1, f10, hq, f3, f4, f5, f7, f8, f9]
     refine X_sr (lx_ok γ) ?_
     simp -implicitDefEqProofs only [go_sem, seval, f1, hi1, f10, hq]
     obtain rfl := sI h
     have h := hr1 _ (ho1 (fun _ hs => nomatch hs))
     obtain rfl := sI h
     refine X_ret ?_
     simp -implicitDefEqProofs only [go_sem, seval, f1, hi1, f10, hq]
     exact Rt.mv1 (BaseR.refl hob) (by simp) (vS)
   ·rintro i1 _ hi1 hn1 as1 ob1 ⟨rfl, rfl⟩
    refine X_seq ?_
    refine X_sr (lx_ok γ) ?_
    simp -implicitDefEqProofs only [go_sem, seval, f1, hi1, hq]
    refine X_cond (lx_ok γ) ?_
    simp -implicitDefEqProofs only [go_sem, seval, f1, hi1, hq]
    have h := hk1 _ (.inl hn1)
    refine X_exit ?_
    try simp -implicitDefEqProofs only [go_sem, ↓reduceIte, Nat.reduceEqDiff, reduceCtorEq]
    refine kJ_in ?_ ⟨h, rfl, rfl⟩
    exact To.mv1 (BaseR.refl hob) (by simp) trivial
 ·rw [if_pos f1] at h
  refine X_cond (lx_ok γ) ?_
  simp -implicitDefEqProofs only [go_sem, seval, f1, hq]
  refine X_sr (lx_ok γ) ?_
  simp -implicitDefEqProofs only [go_sem, seval, f1, hq]
  obtain rfl := sI h
  refine X_ret ?_
  simp -implicitDefEqProofs only [go_sem, seval, f1, hq]
  exact Rt.mv1 (BaseR.refl hob) (by simp) (vS)
end Go.Pf
end
section
set_option maxRecDepth 100000
namespace Go.Pf
open Go Go.Ab Go.Pp Go.Proofs Go.Proofs.S04
attribute [local go_sem] Lxτ Lxγ gam0 Int.toNat_natCast tau3 tau22 tau28 tau29 tau31 tau35 tau42 tau44 eI eB eS e_Ins e_Block e_Func e_Prog e_code_writer e_code_reader e_Edge
set_option maxHeartbeats 1000000 in
theorem slices_IndexFunc_Func_ok (γ : GT) (ob : OT) {a0 : List Func} {v0 : V} {a1 : Func → Option (Bool)} {w1 : V} (hv0 : rdK (getO ob) 5 v0 = some (List.map e_Func a0)) (hf1 : ∀ (ob1 : OT), ob <+: ob1 → ∀ (y0 : Func) (r : Bool), a1 y0 = some r → FnV (Lx γ) w1 [V.agg [V.tr (.sl 1 false (List.map (eI .i64) y0.Kinds)), V.tr (.sl 1 false (List.map (eI .i64) y0.Base)), vint .i64 y0.Params, vint .i64 y0.Result, V.tr (.sl 1 false (List.map e_Block y0.Blocks))]] ob1 (vbool r) ob1) {r : Int} (h : slices_IndexFunc_Func a0 a1 = some r) :
  Valid (Lx γ) 81 [v0, w1] ob (vint .i64 r) ob := by
 refine valid_X (lx_ok γ) (fn := Tryd.f81) (rs := [.tmp 4]) Tryd.func81 (by kernel_rfl) rfl rfl Tryd.ntmps81 rfl (by simp) fun hb hob => ?_
 have hq := rd4 hv0
 rw [slices_IndexFunc_Func] at h
 refine X_sr (lx_ok γ) ?_
 simp -implicitDefEqProofs only [go_sem, seval, hq]
 refine X_seq ?_
 refine X_sr (lx_ok γ) ?_
 simp -implicitDefEqProofs only [go_sem, seval, hq]
 refine X_jq (J := fun as1 ob1 => slices_IndexFunc_Func.k1 = some r ∧ [] = as1 ∧ ob = ob1) ?_ ?_
 ·rintro as1 ob1 ⟨h, rfl, rfl⟩
  rw [slices_IndexFunc_Func.k1] at h
  simp -implicitDefEqProofs only [go_sem, seval, hq]
  refine X_sr (lx_ok γ) ?_
  simp -implicitDefEqProofs only [go_sem, seval, hq]
  obtain rfl := sI h
  refine X_ret ?_
  simp -implicitDefEqProofs only [go_sem, seval, hq]
  exact Rt.mv1 (BaseR.refl hob) (by simp) (vS)
 ·refine X_block ?_
  obtain ⟨lr1, hl1, hk1, hr1⟩ := aft2 h
  refine X_forN hl1 (fun (i1 : Nat) (s : Unit) as1 ob1 => [(0, v0), (1, w1), (7, vint .i64 (List.length a0 : Int)), (8, vint .i64 (i1 : Int))] = as1 ∧ ob = ob1) ⟨_, _, ?_, rfl, rfl⟩ ?_ ?_
  ·exact To.mv1 (BaseR.refl hob) (by simp) (by simp only [go_sem]; exact ⟨VM.self (by simpa using Bd.of_rdK hv0), VM.self (by simpa using hb w1 (by simp)), vS, VM.eqv (by simp) (by simp)⟩)
  ·rintro i1 _ o1 hi1 hw1 h ho1 as1 ob1 ⟨rfl, rfl⟩
   rw [slices_IndexFunc_Func.b1] at h
   refine X_sr (lx_ok γ) ?_
   simp -implicitDefEqProofs only [go_sem, seval, hi1, hq]
   refine X_seq ?_
   refine X_cond (lx_ok γ) ?_
   simp -implicitDefEqProofs only [go_sem, seval, hi1, hq]
   refine X_skip ?_
   try simp -implicitDefEqProofs only [go_sem]
   refine X_seq ?_
   refine X_block ?_
   refine X_sr (lx_ok γ) ?_
   simp -implicitDefEqProofs only [go_sem, seval, hi1, hq]
   refine X_sr (lx_ok γ) ?_
   obtain ⟨x2, f1, h⟩ := bindE h
   obtain ⟨f2, f3⟩ := ixL_nat f1
   have f4 : (0 : Int) ≤ (i1 : Int) := Int.natCast_nonneg _
   obtain ⟨x3, f5, h⟩ := bindE h
   simp -implicitDefEqProofs only [go_sem, seval, hi1, hq, f2, f3, f4]
   refine callV_fn (hf1 _ List.prefix_rfl _ _ f5) rfl rfl ?_
   simp -implicitDefEqProofs only [go_sem, seval, hi1, hq, f2, f3, f4]
   cases f6 : x3
   ·rw [if_neg (nF f6)] at h
    refine X_cond (lx_ok γ) ?_
    simp -implicitDefEqProofs only [go_sem, seval, hi1, f6, hq, f2, f3, f4]
    refine X_skip ?_
    try simp -implicitDefEqProofs only [go_sem]
    refine X_reg (lx_ok γ) ?_
    obtain rfl := sI h
    simp -implicitDefEqProofs only [go_sem, seval, hi1, f6, hq]
    refine kR_in rfl ?_ ⟨rfl, rfl⟩
    exact To.mv1 (BaseR.refl hob) (by simp) (by simp only [go_sem]; exact ⟨VM.self (by simpa using Bd.of_rdK hv0), VM.self (by simpa using hb w1 (by simp)), vS, VM.eqv (by rw [hw1]) (by simp)⟩)
   ·rw [if_pos f6] at h
    refine X_cond (lx_ok γ) ?_
    simp -implicitDefEqProofs only [go_sem, seval, hi1, f6, hq, f2, f3, f4]
    refine X_sr (lx_ok γ) ?_
    simp -implicitDefEqProofs only [go_sem, seval, hi1, f6, hq]
    obtain rfl := sI h
    have h := hr1 _ (ho1 (fun _ hs => nomatch hs))
    obtain rfl := sI h
    refine X_ret ?_
    simp -implicitDefEqProofs only [go_sem, seval, hi1, f6, hq]
    exact Rt.mv1 (BaseR.refl hob) (by simp) (vS)
  ·rintro i1 _ hi1 hn1 as1 ob1 ⟨rfl, rfl⟩
   refine X_sr (lx_ok γ) ?_
   simp -implicitDefEqProofs only [go_sem, seval, hi1, hq]
   refine X_seq ?_
   refine X_cond (lx_ok γ) ?_
   simp -implicitDefEqProofs only [go_sem, seval, hi1, hq]
   have h := hk1 _ (.inl hn1)
   refine X_exit ?_
   try simp -implicitDefEqProofs only [go_sem, ↓reduceIte, Nat.reduceEqDiff, reduceCtorEq]
   refine kJ_in ?_ ⟨h, rfl, rfl⟩
   exact To.mv1 (BaseR.refl hob) (by simp) trivial
end Go.Pf
end
section
set_option maxRecDepth 100000
namespace Go.Pf
open Go Go.Ab Go.Pp Go.Proofs Go.Proofs.S04
attribute [local go_sem] Lxτ Lxγ gam0 Int.toNat_natCast tau3 tau22 tau27 tau28 tau29 tau31 tau35 tau42 tau44 eI eB eS e_Ins e_Block e_Func e_Prog e_code_writer e_code_reader e_Edge
set_option maxHeartbeats 1000000 in
theorem slices_ContainsFunc_Func_ok (γ : GT) (ob : OT) {a0 : List Func} {v0 : V} {a1 : Func → Option (Bool)} {w1 : V} (hv0 : rdK (getO ob) 5 v0 = some (List.map e_Func a0)) (hf1 : ∀ (ob1 : OT), ob <+: ob1 → ∀ (y0 : Func) (r : Bool), a1 y0 = some r → FnV (Lx γ) w1 [V.agg [V.tr (.sl 1 false (List.map (eI .i64) y0.Kinds)), V.tr (.sl 1 false (List.map (eI .i64) y0.Base)), vint .i64 y0.Params, vint .i64 y0.Result, V.tr (.sl 1 false (List.map e_Block y0.Blocks))]] ob1 (vbool r) ob1) {r : Bool} (h : slices_ContainsFunc_Func a0 a1 = some r) :
  Valid (Lx γ) 57 [v0, w1] ob (vbool r) ob := by
 refine valid_X (lx_ok γ) (fn := Tryd.f57) (rs := [.tmp 4]) Tryd.func57 (by kernel_rfl) rfl rfl Tryd.ntmps57 rfl (by simp) fun hb hob => ?_
 have hq := rd4 hv0
 rw [slices_ContainsFunc_Func] at h
 refine X_sr (lx_ok γ) ?_
 simp -implicitDefEqProofs only [go_sem, seval, hq]
 refine X_sr (lx_ok γ) ?_
 obtain ⟨x1, f1, h⟩ := bindE h
 simp -implicitDefEqProofs only [go_sem, seval, hq]
 refine callV_eq (slices_IndexFunc_Func_ok γ _ (by first | exact rdK_app hv0 | exact hv0) hf1 f1) rfl rfl ?_
 simp -implicitDefEqProofs only [go_sem, seval, hq]
 obtain rfl := sI h
 refine X_ret ?_
 simp -implicitDefEqProofs only [go_sem, seval, hq]
 exact Rt.mv1 (BaseR.refl hob) (by simp) (vS)
end Go.Pf
end
section
set_option maxRecDepth 100000
namespace Go.Pf
open Go Go.Ab Go.Pp Go.Proofs Go.Proofs.S04
attribute [local go_sem] Lxτ Lxγ gam0 Int.toNat_natCast tau3 tau28 tau35 eI eB eS e_Ins e_Block e_Func e_Prog e_code_writer e_code_reader e_Edge
set_option maxHeartbeats 1000000 in
theorem code_counts_1_ok (γ : GT) (ob : OT) {a0 : Ins} {v0_6 : V} (hv0_6 : rdK (getO ob) 1 v0_6 = some (List.map (eI .i64) a0.Args)) {r : Bool} (h : code_counts_1 a0 = some r) :
  Valid (Lx γ) 82 [V.agg [vint .i64 a0.Op, vint .i64 a0.D, vint .i64 a0.A, vint .i64 a0.B, vint .i64 a0.N, vint .i64 a0.M, v0_6]] ob (vbool r) ob := by
 refine valid_X (lx_ok γ) (fn := Tryd.f82) (rs := [.tmp 2]) Tryd.func82 (by kernel_rfl) rfl rfl Tryd.ntmps82 rfl (by simp) fun hb hob => ?_
 have hq := rd4 hv0_6
 rw [code_counts_1] at h
 refine X_sr (lx_ok γ) ?_
 simp -implicitDefEqProofs only [go_sem, seval, hq]
 refine X_sr (lx_ok γ) ?_
 cases f1 : (a0.Op == 19)
 ·rw [if_neg (nF f1)] at h
  simp -implicitDefEqProofs only [go_sem, seval, f1, hq]
  obtain rfl := sI h
  refine X_ret ?_
  simp -implicitDefEqProofs only [go_sem, seval, f1, hq]
  exact Rt.mv0 (BaseR.refl hob) (by simp) (vS)
 ·rw [if_pos f1] at h
  simp -implicitDefEqProofs only [go_sem, seval, f1, hq]
  obtain rfl := sI h
  refine X_ret ?_
  simp -implicitDefEqProofs only [go_sem, seval, f1, hq]
  exact Rt.mv0 (BaseR.refl hob) (by simp) (vS)
end Go.Pf
end
section
set_option maxRecDepth 100000
namespace Go.Pf
open Go Go.Ab Go.Pp Go.Proofs Go.Proofs.S04
attribute [local go_sem] Lxτ Lxγ gam0 Int.toNat_natCast tau3 tau28 tau29 tau31 tau35 tau42 tau44 tau61 eI eB eS e_Ins e_Block e_Func e_Prog e_code_writer e_code_reader e_Edge
set_option maxHeartbeats 1000000 in
theorem code_counts_ok (γ : GT) (ob : OT) {a0 : Func} {v0_0 : V} {v0_1 : V} {v0_4 : V} (hv0_0 : rdK (getO ob) 1 v0_0 = some (List.map (eI .i64) a0.Kinds)) (hv0_1 : rdK (getO ob) 1 v0_1 = some (List.map (eI .i64) a0.Base)) (hv0_4 : rdK (getO ob) 1 v0_4 = some (List.map e_Block a0.Blocks)) {r : Bool} (h : code_counts a0 = some r) :
  Valid (Lx γ) 59 [V.agg [v0_0, v0_1, vint .i64 a0.Params, vint .i64 a0.Result, v0_4]] ob (vbool r) ob := by
 refine valid_X (lx_ok γ) (fn := Tryd.f59) (rs := [.tmp 2]) Tryd.func59 (by kernel_rfl) rfl rfl Tryd.ntmps59 rfl (by simp) fun hb hob => ?_
 have hq := And.intro (rd4 hv0_0) (And.intro (rd4 hv0_1) (rd4 hv0_4))
 rw [code_counts] at h
 refine X_sr (lx_ok γ) ?_
 simp -implicitDefEqProofs only [go_sem, seval, hq]
 refine X_seq ?_
 refine X_seq ?_
 refine X_jq (J := fun as1 ob1 => ∃ (x2 : Bool), code_counts.j1 a0 x2 = some r ∧ [(1, V.ref ob.length 0), (15, vbool x2)] = as1 ∧ ob ++ [some (O.box [v0_0, v0_1, vint .i64 a0.Params, vint .i64 a0.Result, v0_4])] = ob1) ?_ ?_
 ·rintro as1 ob1 ⟨x2, h, rfl, rfl⟩
  rw [code_counts.j1] at h
  simp -implicitDefEqProofs only [go_sem, seval, hq]
  cases f1 : x2
  ·rw [if_neg (nF f1)] at h
   refine X_cond (lx_ok γ) ?_
   simp -implicitDefEqProofs only [go_sem, seval, f1, hq]
   refine X_skip ?_
   try simp -implicitDefEqProofs only [go_sem]
   refine X_seq ?_
   refine X_sr (lx_ok γ) ?_
   simp -implicitDefEqProofs only [go_sem, seval, f1, hq]
   refine X_jq (J := fun as1 ob1 => code_counts.k1 = some r ∧ [] = as1 ∧ ob = ob1) ?_ ?_
   ·rintro as1 ob1 ⟨h, rfl, rfl⟩
    rw [code_counts.k1] at h
    simp -implicitDefEqProofs only [go_sem, seval, f1, hq]
    refine X_sr (lx_ok γ) ?_
    simp -implicitDefEqProofs only [go_sem, seval, f1, hq]
    obtain rfl := sI h
    refine X_ret ?_
    simp -implicitDefEqProofs only [go_sem, seval, f1, hq]
    exact Rt.mv1 (BaseR.refl hob) (by simp) (vS)
   ·refine X_block ?_
    obtain ⟨lr1, hl1, hk1, hr1⟩ := aft2 h
    refine X_forN hl1 (fun (i1 : Nat) (s : Unit) as1 ob1 => [(17, v0_4), (18, vint .i64 (List.length a0.Blocks : Int)), (19, vint .i64 (i1 : Int))] = as1 ∧ ob = ob1) ⟨_, _, ?_, rfl, rfl⟩ ?_ ?_
    ·exact To.mv0 (BaseR.refl hob) (by simp) (by simp only [go_sem]; exact ⟨VM.self (by simpa using Bd.of_rdK hv0_4), vS, VM.eqv (by simp) (by simp)⟩)
    ·rintro i1 _ o1 hi1 hw1 h ho1 as1 ob1 ⟨rfl, rfl⟩
     rw [code_counts.b1] at h
     refine X_sr (lx_ok γ) ?_
     simp -implicitDefEqProofs only [go_sem, seval, f1, hi1, hq]
     refine X_seq ?_
     refine X_cond (lx_ok γ) ?_
     simp -implicitDefEqProofs only [go_sem, seval, f1, hi1, hq]
     refine X_skip ?_
     try simp -implicitDefEqProofs only [go_sem]
     refine X_seq ?_
     refine X_block ?_
     refine X_sr (lx_ok γ) ?_
     obtain ⟨x4, f2, h⟩ := bindE h
     obtain ⟨f3, f4⟩ := ixL_nat f2
     have f5 : (0 : Int) ≤ (i1 : Int) := Int.natCast_nonneg _
     simp -implicitDefEqProofs only [go_sem, seval, f1, hi1, hq, f3, f4, f5]
     refine X_sr (lx_ok γ) ?_
     simp -implicitDefEqProofs only [go_sem, seval, f1, hi1, hq]
     refine X_sr (lx_ok γ) ?_
     cases f6 : decide (40 < (List.length x4.Code : Int))
     ·rw [if_neg (nF f6)] at h
      obtain ⟨x5, f7, h⟩ := bindE h
      simp -implicitDefEqProofs only [go_sem, seval, f1, hi1, f6, hq]
      refine callV_eq (slices_ContainsFunc_Ins_ok γ _ (by simp -implicitDefEqProofs only [go_sem, seval, f1, hi1, f6, hq]; try rfl) (fun ob1 hp y0 r hx => by obtain ⟨l, rfl⟩ := hp; exact code_counts_1_ok γ _ (by simp -implicitDefEqProofs only [go_sem, seval, f1, hi1, f6, hq]; try rfl) hx) f7) rfl rfl ?_
      simp -implicitDefEqProofs only [go_sem, seval, f1, hi1, f6, hq]
      cases f8 : x5
      ·rw [if_neg (nF f8)] at h
       refine X_cond (lx_ok γ) ?_
       simp -implicitDefEqProofs only [go_sem, seval, f1, hi1, f6, f8, hq]
       refine X_skip ?_
       try simp -implicitDefEqProofs only [go_sem]
       refine X_reg (lx_ok γ) ?_
       obtain rfl := sI h
       simp -implicitDefEqProofs only [go_sem, seval, f1, hi1, f6, f8, hq]
       refine kR_in rfl ?_ ⟨rfl, rfl⟩
       exact To.mv0 (BaseR.refl hob) (by simp) (by simp only [go_sem]; exact ⟨VM.self (by simpa using Bd.of_rdK hv0_4), vS, VM.eqv (by rw [hw1]) (by simp)⟩)
      ·rw [if_pos f8] at h
       refine X_cond (lx_ok γ) ?_
       simp -implicitDefEqProofs only [go_sem, seval, f1, hi1, f6, f8, hq]
       refine X_sr (lx_ok γ) ?_
       simp -implicitDefEqProofs only [go_sem, seval, f1, hi1, f6, f8, hq]
       obtain rfl := sI h
       have h := hr1 _ (ho1 (fun _ hs => nomatch hs))
       obtain rfl := sI h
       refine X_ret ?_
       simp -implicitDefEqProofs only [go_sem, seval, f1, hi1, f6, f8, hq]
       exact Rt.mv0 (BaseR.refl hob) (by simp) (vS)
     ·rw [if_pos f6] at h
      simp -implicitDefEqProofs only [go_sem, seval, f1, hi1, f6, hq]
      refine X_condT (lx_ok γ) rfl ?_
      refine X_sr (lx_ok γ) ?_
      simp -implicitDefEqProofs only [go_sem, seval, f1, hi1, f6, hq]
      obtain rfl := sI h
      have h := hr1 _ (ho1 (fun _ hs => nomatch hs))
      obtain rfl := sI h
      refine X_ret ?_
      simp -implicitDefEqProofs only [go_sem, seval, f1, hi1, f6, hq]
      exact Rt.mv0 (BaseR.refl hob) (by simp) (vS)
    ·rintro i1 _ hi1 hn1 as1 ob1 ⟨rfl, rfl⟩
     refine X_sr (lx_ok γ) ?_
     simp -implicitDefEqProofs only [go_sem, seval, f1, hi1, hq]
     refine X_seq ?_
     refine X_cond (lx_ok γ) ?_
     simp -implicitDefEqProofs only [go_sem, seval, f1, hi1, hq]
     have h := hk1 _ (.inl hn1)
     refine X_exit ?_
     try simp -implicitDefEqProofs only [go_sem, ↓reduceIte, Nat.reduceEqDiff, reduceCtorEq]
     refine kJ_in ?_ ⟨h, rfl, rfl⟩
     exact To.mv1 (BaseR.refl hob) (by simp) trivial
  ·rw [if_pos f1] at h
   refine X_cond (lx_ok γ) ?_
   simp -implicitDefEqProofs only [go_sem, seval, f1, hq]
   refine X_sr (lx_ok γ) ?_
   simp -implicitDefEqProofs only [go_sem, seval, f1, hq]
   obtain rfl := sI h
   refine X_ret ?_
   simp -implicitDefEqProofs only [go_sem, seval, f1, hq]
   exact Rt.mv0 (BaseR.refl hob) (by simp) (vS)
 ·refine X_reg (lx_ok γ) ?_
  cases f9 : decide (48 < (List.length a0.Kinds : Int))
  ·rw [if_neg (nF f9)] at h
   simp -implicitDefEqProofs only [go_sem, seval, f9, hq]
   refine kJ_in ?_ ⟨(decide (40 < (List.length a0.Blocks : Int))), h, rfl, rfl⟩
   exact To.mv [(0, 0)] (BaseR.refl hob) (by simp) (by decide) (by simp only [go_sem]; exact ⟨VM.refA (j := 0) (t := 0) rfl, vS⟩) ⟨⟨_, rfl, OM.box _ _ ⟨VM.self (by simpa using Bd.of_rdK hv0_0), VM.self (by simpa using Bd.of_rdK hv0_1), vS, vS, VM.self (by simpa using Bd.of_rdK hv0_4), trivial⟩⟩, trivial⟩
  ·rw [if_pos f9] at h
   simp -implicitDefEqProofs only [go_sem, seval, f9, hq]
   refine kJ_in ?_ ⟨true, h, rfl, rfl⟩
   exact To.mv [(0, 0)] (BaseR.refl hob) (by simp) (by decide) (by simp only [go_sem]; exact ⟨VM.refA (j := 0) (t := 0) rfl, vS⟩) ⟨⟨_, rfl, OM.box _ _ ⟨VM.self (by simpa using Bd.of_rdK hv0_0), VM.self (by simpa using Bd.of_rdK hv0_1), vS, vS, VM.self (by simpa using Bd.of_rdK hv0_4), trivial⟩⟩, trivial⟩
end Go.Pf
end
section
set_option maxRecDepth 100000
namespace Go.Pf
open Go Go.Ab Go.Pp Go.Proofs Go.Proofs.S04
attribute [local go_sem] Lxτ Lxγ gam0 Int.toNat_natCast tau3 tau4 tau28 tau29 tau31 tau35 tau42 tau44 eI eB eS e_Ins e_Block e_Func e_Prog e_code_writer e_code_reader e_Edge
set_option maxHeartbeats 1000000 in
theorem code_Encode_1_ok (γ : GT) (ob : OT) {a0 : Func} {v0_0 : V} {v0_1 : V} {v0_4 : V} (hv0_0 : rdK (getO ob) 1 v0_0 = some (List.map (eI .i64) a0.Kinds)) (hv0_1 : rdK (getO ob) 1 v0_1 = some (List.map (eI .i64) a0.Base)) (hv0_4 : rdK (getO ob) 1 v0_4 = some (List.map e_Block a0.Blocks)) {r : Bool} (h : code_Encode_1 a0 = some r) :
  Valid (Lx γ) 58 [V.agg [v0_0, v0_1, vint .i64 a0.Params, vint .i64 a0.Result, v0_4]] ob (vbool r) ob := by
 refine valid_X (lx_ok γ) (fn := Tryd.f58) (rs := [.tmp 2]) Tryd.func58 (by kernel_rfl) rfl rfl Tryd.ntmps58 rfl (by simp) fun hb hob => ?_
 have hq := And.intro (rd4 hv0_0) (And.intro (rd4 hv0_1) (rd4 hv0_4))
 rw [code_Encode_1] at h
 refine X_sr (lx_ok γ) ?_
 simp -implicitDefEqProofs only [go_sem, seval, hq]
 refine X_sr (lx_ok γ) ?_
 obtain ⟨x1, f1, h⟩ := bindE h
 simp -implicitDefEqProofs only [go_sem, seval, hq]
 refine callV_eq (code_counts_ok γ _ (by first | exact rdK_app hv0_0 | exact hv0_0) (by first | exact rdK_app hv0_1 | exact hv0_1) (by first | exact rdK_app hv0_4 | exact hv0_4) f1) rfl rfl ?_
 simp -implicitDefEqProofs only [go_sem, seval, hq]
 obtain rfl := sI h
 refine X_ret ?_
 simp -implicitDefEqProofs only [go_sem, seval, hq]
 exact Rt.mv0 (BaseR.refl hob) (by simp) (vS)
end Go.Pf
end
section
set_option maxRecDepth 100000
namespace Go.Pf
open Go Go.Ab Go.Pp Go.Proofs Go.Proofs.S04
attribute [local go_sem] Lxτ Lxγ gam0 Int.toNat_natCast tau5 tau45 eI eB eS e_Ins e_Block e_Func e_Prog e_code_writer e_code_reader e_Edge
theorem slices_Clone_byte_ok (γ : GT) (ob : OT) {a0 : List Int} {v0 : V} (hv0 : rdK (getO ob) 1 v0 = some (List.map (eI .u8) a0)) {r : List Int} (h : slices_Clone_byte a0 = some r) :
  Valid (Lx γ) 118 [v0] ob (V.row ob.length 0 0 (List.length r)) (ob ++ [some (O.row 1 0 (List.map (eI .u8) r))]) := by
 rw [slices_Clone_byte] at h
 have hn : List.length a0 ≤ 140737488355328 := by simpa using (appL_some h).1
 obtain rfl : r = a0 := by simpa using (appL_some h).2
 refine valid_W (lx_ok γ) (fn := Tryd.f118) (rs := [.tmp 2]) Tryd.func118 (by kernel_rfl) rfl rfl Tryd.ntmps118 (Nat.le_of_ble_eq_true rfl) (by simp) fun hb hob => ?_
 obtain ⟨k', hs⟩ := rdK_rdS hv0
 simp -implicitDefEqProofs only [go_sem, seval, hs, rdK_app hv0, hv0, hn]
 refine ⟨fun h0 => ?_, ?_⟩
 ·have : r = [] := by simpa using h0
  subst this
  exact Rt.nilRow
 ·exact Rt.row (j := 0) hob rfl rfl
end Go.Pf
end
section
set_option maxRecDepth 100000
namespace Go.Pf
open Go Go.Ab Go.Pp Go.Proofs Go.Proofs.S04
attribute [local go_sem] Lxτ Lxγ gam0 Int.toNat_natCast tau5 tau45 eI eB eS e_Ins e_Block e_Func e_Prog e_code_writer e_code_reader e_Edge
set_option maxHeartbeats 1000000 in
theorem slices_Clip_byte_ok (γ : GT) (ob : OT) {a0 : List Int} {r : List Int} (h : slices_Clip_byte a0 = some r) :
  Valid (Lx γ) 122 [V.tr (.sl 1 false (List.map (eI .u8) a0))] ob (V.tr (.sl 1 true (List.map (eI .u8) r))) ob := by
 refine valid_X (lx_ok γ) (fn := Tryd.f122) (rs := [.tmp 2]) Tryd.func122 (by kernel_rfl) rfl rfl Tryd.ntmps122 rfl (by simp) fun hb hob => ?_
 rw [slices_Clip_byte] at h
 refine X_sr (lx_ok γ) ?_
 simp -implicitDefEqProofs only [go_sem, seval]
 refine X_sr (lx_ok γ) ?_
 simp -implicitDefEqProofs only [go_sem, seval]
 obtain rfl := sI h
 refine X_ret ?_
 simp -implicitDefEqProofs only [go_sem, seval]
 exact Rt.mv1 (BaseR.refl hob) (by simp) (vS)
end Go.Pf
end
section
set_option maxRecDepth 100000
namespace Go.Pf
open Go Go.Ab Go.Pp Go.Proofs Go.Proofs.S04
attribute [local go_sem] Lxτ Lxγ gam0 Int.toNat_natCast tau5 tau45 tau118 eI eB eS e_Ins e_Block e_Func e_Prog e_code_writer e_code_reader e_Edge
set_option maxHeartbeats 1000000 in
theorem varint_put_ok (γ : GT) (ob : OT) {a0 : List Int} {a1 : Int} {r : List Int} (h : varint_put a0 a1 = some r) :
  Valid (Lx γ) 119 [V.tr (.sl 1 false (List.map (eI .u8) a0)), vint .u64 a1] ob (V.row ob.length 0 0 (List.length r)) (ob ++ [some (O.row 1 0 (List.map (eI .u8) r))]) := by
 refine valid_X (lx_ok γ) (fn := Tryd.f119) (rs := [.tmp 4]) Tryd.func119 (by kernel_rfl) rfl rfl Tryd.ntmps119 rfl (by simp) fun hb hob => ?_
 rw [varint_put] at h
 refine X_sr (lx_ok γ) ?_
 simp -implicitDefEqProofs only [go_sem, seval]
 refine X_sr (lx_ok γ) ?_
 obtain ⟨x1, f1, h⟩ := bindE h
 simp -implicitDefEqProofs only [go_sem, seval]
 refine callV_eq (slices_Clip_byte_ok γ _  f1) rfl rfl ?_
 simp -implicitDefEqProofs only [go_sem, seval]
 refine X_seq ?_
 refine X_jq (J := fun as1 ob1 => ∃ (x2 : List Int) (x3 : Int), varint_put.k1 x2 x3 = some r ∧ (([(0, V.tr (.sl 1 true (List.map (eI .u8) x2))), (1, vint .u64 x3)] = as1 ∧ ob = ob1) ∨ ([(0, V.row ob.length 0 0 (List.length x2)), (1, vint .u64 x3)] = as1 ∧ ob ++ [some (O.row 1 0 (List.map (eI .u8) x2))] = ob1))) ?_ ?_
 ·rintro as1 ob1 ⟨x2, x3, h, ⟨rfl, rfl⟩ | ⟨rfl, rfl⟩⟩
  ·rw [varint_put.k1] at h
   simp -implicitDefEqProofs only [go_sem, seval]
   refine X_sr (lx_ok γ) ?_
   obtain ⟨x4, f2, h⟩ := bindE h
   have f3 : List.length x4 ≤ 140737488355328 := by have := (appL_some f2).1; rw [(appL_some f2).2]; simpa using this
   have f4 : List.map (eI .u8) x2 ++ [[.lit (.int .u8 (u8 x3))]] = List.map (eI .u8) x4 := by rw [(appL_some f2).2]; simp [eB, eI, eS]
   have f5 : List.length x2 + 1 = List.length x4 := by rw [(appL_some f2).2]; simp
   simp -implicitDefEqProofs only [go_sem, seval, false_and, f3, f4, f5]
   obtain rfl := sI h
   refine X_ret ?_
   simp -implicitDefEqProofs only [go_sem, seval, false_and, f3, f4, f5]
   exact Rt.mv [(1, 0)] (BaseR.refl hob) (by simp) (by decide) (VM.rowL (j := 1) (t := 0) rfl (by first | rfl | simp | simp_all | omega)) ⟨⟨_, rfl, OM.row' (by first | rfl | simp_all)⟩, trivial⟩
  ·rw [varint_put.k1] at h
   simp -implicitDefEqProofs only [go_sem, seval]
   refine X_sr (lx_ok γ) ?_
   obtain ⟨x4, f2, h⟩ := bindE h
   have f3 : List.length x4 ≤ 140737488355328 := by have := (appL_some f2).1; rw [(appL_some f2).2]; simpa using this
   have f4 : List.map (eI .u8) x2 ++ [[.lit (.int .u8 (u8 x3))]] = List.map (eI .u8) x4 := by rw [(appL_some f2).2]; simp [eB, eI, eS]
   have f5 : List.length x2 + 1 = List.length x4 := by rw [(appL_some f2).2]; simp
   simp -implicitDefEqProofs only [go_sem, seval, false_and, f3, f4, f5]
   obtain rfl := sI h
   refine X_ret ?_
   simp -implicitDefEqProofs only [go_sem, seval, false_and, f3, f4, f5]
   exact Rt.mv [(0, 1)] (BaseR.refl hob) (by simp) (by decide) (VM.rowL (j := 0) (t := 0) rfl (by first | rfl | simp | simp_all | omega)) ⟨⟨_, rfl, OM.row' (by first | rfl | simp_all)⟩, trivial⟩
 ·refine X_block ?_
  obtain ⟨lr1, hl1, hk1, hr1⟩ := aft2 h
  refine X_while hl1 (fun (s : (List Int) × Int) as1 ob1 => ([(0, V.tr (.sl 1 true (List.map (eI .u8) s.1))), (1, vint .u64 s.2)] = as1 ∧ ob = ob1) ∨ ([(0, V.row ob.length 0 0 (List.length s.1)), (1, vint .u64 s.2)] = as1 ∧ ob ++ [some (O.row 1 0 (List.map (eI .u8) s.1))] = ob1)) ⟨_, _, ?_, .inl ⟨rfl, rfl⟩⟩ ?_
  ·exact To.mv1 (BaseR.refl hob) (by simp) (by simp only [go_sem]; exact ⟨vS, vS⟩)
  ·rintro ⟨x2, x3⟩ o1 h ho1 as1 ob1 (⟨rfl, rfl⟩ | ⟨rfl, rfl⟩)
   ·rw [varint_put.b1] at h
    refine X_seq ?_
    refine X_sr (lx_ok γ) ?_
    simp -implicitDefEqProofs only [go_sem, seval]
    cases f6 : decide (128 ≤ x3)
    ·rw [if_neg (nF f6)] at h
     refine X_cond (lx_ok γ) ?_
     simp -implicitDefEqProofs only [go_sem, seval, f6]
     obtain rfl := sI h
     have h := hk1 _ (.inr (ho1 (fun _ hs => nomatch hs)))
     refine X_exit ?_
     try simp -implicitDefEqProofs only [go_sem, ↓reduceIte, Nat.reduceEqDiff, reduceCtorEq]
     refine kJ_in ?_ ⟨x2, x3, h, .inl ⟨rfl, rfl⟩⟩
     exact To.mv1 (BaseR.refl hob) (by simp) (by simp only [go_sem]; exact ⟨vS, vS⟩)
    ·rw [if_pos f6] at h
     refine X_cond (lx_ok γ) ?_
     simp -implicitDefEqProofs only [go_sem, seval, f6]
     refine X_skip ?_
     try simp -implicitDefEqProofs only [go_sem]
     refine X_block ?_
     refine X_sr (lx_ok γ) ?_
     obtain ⟨x5, f7, h⟩ := bindE h
     have f8 : List.length x5 ≤ 140737488355328 := by have := (appL_some f7).1; rw [(appL_some f7).2]; simpa using this
     have f9 : List.map (eI .u8) x2 ++ [[.lit (.int .u8 (u8 (orW 8 (u8 x3) 128)))]] = List.map (eI .u8) x5 := by rw [(appL_some f7).2]; simp [eB, eI, eS]
     have f10 : List.length x2 + 1 = List.length x5 := by rw [(appL_some f7).2]; simp
     simp -implicitDefEqProofs only [go_sem, seval, false_and, f6, f8, f9, f10]
     refine X_reg (lx_ok γ) ?_
     obtain rfl := sI h
     simp -implicitDefEqProofs only [go_sem, seval, f6]
     refine kR_in rfl ?_ (.inr ⟨rfl, rfl⟩)
     exact To.mv [(1, 0)] (BaseR.refl hob) (by simp) (by decide) (by simp only [go_sem]; exact ⟨VM.rowL (j := 1) (t := 0) rfl (by first | rfl | simp | simp_all | omega), vS⟩) ⟨⟨_, rfl, OM.row' (by first | rfl | simp_all)⟩, trivial⟩
   ·rw [varint_put.b1] at h
    refine X_seq ?_
    refine X_sr (lx_ok γ) ?_
    simp -implicitDefEqProofs only [go_sem, seval]
    cases f6 : decide (128 ≤ x3)
    ·rw [if_neg (nF f6)] at h
     refine X_cond (lx_ok γ) ?_
     simp -implicitDefEqProofs only [go_sem, seval, f6]
     obtain rfl := sI h
     have h := hk1 _ (.inr (ho1 (fun _ hs => nomatch hs)))
     refine X_exit ?_
     try simp -implicitDefEqProofs only [go_sem, ↓reduceIte, Nat.reduceEqDiff, reduceCtorEq]
     refine kJ_in ?_ ⟨x2, x3, h, .inr ⟨rfl, rfl⟩⟩
     exact To.mv [(0, 0)] (BaseR.refl hob) (by simp) (by decide) (by simp only [go_sem]; exact ⟨VM.rowL (j := 0) (t := 0) rfl (by first | rfl | simp | simp_all | omega), vS⟩) ⟨⟨_, rfl, OM.row' (by first | rfl | simp_all)⟩, trivial⟩
    ·rw [if_pos f6] at h
     refine X_cond (lx_ok γ) ?_
     simp -implicitDefEqProofs only [go_sem, seval, f6]
     refine X_skip ?_
     try simp -implicitDefEqProofs only [go_sem]
     refine X_block ?_
     refine X_sr (lx_ok γ) ?_
     obtain ⟨x5, f7, h⟩ := bindE h
     have f8 : List.length x5 ≤ 140737488355328 := by have := (appL_some f7).1; rw [(appL_some f7).2]; simpa using this
     have f9 : List.map (eI .u8) x2 ++ [[.lit (.int .u8 (u8 (orW 8 (u8 x3) 128)))]] = List.map (eI .u8) x5 := by rw [(appL_some f7).2]; simp [eB, eI, eS]
     have f10 : List.length x2 + 1 = List.length x5 := by rw [(appL_some f7).2]; simp
     simp -implicitDefEqProofs only [go_sem, seval, false_and, f6, f8, f9, f10]
     refine X_reg (lx_ok γ) ?_
     obtain rfl := sI h
     simp -implicitDefEqProofs only [go_sem, seval, f6]
     refine kR_in rfl ?_ (.inr ⟨rfl, rfl⟩)
     exact To.mv [(0, 1)] (BaseR.refl hob) (by simp) (by decide) (by simp only [go_sem]; exact ⟨VM.rowL (j := 0) (t := 0) rfl (by first | rfl | simp | simp_all | omega), vS⟩) ⟨⟨_, rfl, OM.row' (by first | rfl | simp_all)⟩, trivial⟩
end Go.Pf
end
section
set_option maxRecDepth 100000
namespace Go.Pf
open Go Go.Ab Go.Pp Go.Proofs Go.Proofs.S04
attribute [local go_sem] Lxτ Lxγ gam0 Int.toNat_natCast tau3 tau5 tau45 tau118 eI eB eS e_Ins e_Block e_Func e_Prog e_code_writer e_code_reader e_Edge
set_option maxHeartbeats 1000000 in
theorem varint_Put_ok (γ : GT) (ob : OT) {a0 : List Int} {a1 : Int} {r : List Int} (h : varint_Put a0 a1 = some r) :
  Valid (Lx γ) 103 [V.tr (.sl 1 false (List.map (eI .u8) a0)), vint .i64 a1] ob (V.row ob.length 0 0 (List.length r)) (ob ++ [some (O.row 1 0 (List.map (eI .u8) r))]) := by
 refine valid_X (lx_ok γ) (fn := Tryd.f103) (rs := [.tmp 4]) Tryd.func103 (by kernel_rfl) rfl rfl Tryd.ntmps103 rfl (by simp) fun hb hob => ?_
 rw [varint_Put] at h
 refine X_sr (lx_ok γ) ?_
 simp -implicitDefEqProofs only [go_sem, seval]
 refine X_seq ?_
 refine X_sr (lx_ok γ) ?_
 simp -implicitDefEqProofs only [go_sem, seval]
 cases f1 : decide (a1 < 0)
 ·rw [if_neg (nF f1)] at h
  refine X_cond (lx_ok γ) ?_
  simp -implicitDefEqProofs only [go_sem, seval, f1]
  refine X_skip ?_
  try simp -implicitDefEqProofs only [go_sem]
  refine X_sr (lx_ok γ) ?_
  obtain ⟨x1, f2, h⟩ := bindE h
  simp -implicitDefEqProofs only [go_sem, seval, f1]
  refine callV_eq (varint_put_ok γ _  f2) rfl rfl ?_
  simp -implicitDefEqProofs only [go_sem, seval, f1]
  obtain rfl := sI h
  refine X_ret ?_
  simp -implicitDefEqProofs only [go_sem, seval, f1]
  exact Rt.mv [(0, 0)] (BaseR.refl hob) (by simp) (by decide) (VM.rowL (j := 0) (t := 0) rfl (by first | rfl | simp | simp_all | omega)) ⟨⟨_, rfl, OM.row' (by first | rfl | simp_all)⟩, trivial⟩
 ·rw [if_pos f1] at h
  refine X_cond (lx_ok γ) ?_
  simp -implicitDefEqProofs only [go_sem, seval, f1]
  refine X_sr (lx_ok γ) ?_
  obtain ⟨x2, f3, h⟩ := bindE h
  simp -implicitDefEqProofs only [go_sem, seval, f1]
  refine callV_eq (slices_Clone_byte_ok γ _ (by simp -implicitDefEqProofs only [go_sem, seval, f1]; try rfl) f3) rfl rfl ?_
  simp -implicitDefEqProofs only [go_sem, seval, f1]
  obtain rfl := sI h
  refine X_ret ?_
  simp -implicitDefEqProofs only [go_sem, seval, f1]
  exact Rt.mv [(0, 0)] (BaseR.refl hob) (by simp) (by decide) (VM.rowL (j := 0) (t := 0) rfl (by first | rfl | simp | simp_all | omega)) ⟨⟨_, rfl, OM.row' (by first | rfl | simp_all)⟩, trivial⟩
end Go.Pf
end
section
set_option maxRecDepth 100000
namespace Go.Pf
open Go Go.Ab Go.Pp Go.Proofs Go.Proofs.S04
attribute [local go_sem] Lxτ Lxγ gam0 Int.toNat_natCast tau3 tau5 tau28 tau45 eI eB eS e_Ins e_Block e_Func e_Prog e_code_writer e_code_reader e_Edge
set_option maxHeartbeats 1000000 in
theorem varint_List_ok (γ : GT) (ob : OT) {a0 : List Int} {v0 : V} (hv0 : rdK (getO ob) 1 v0 = some (List.map (eI .i64) a0)) {r : List Int} (h : varint_List a0 = some r) :
  Valid (Lx γ) 83 [v0] ob (V.row ob.length 0 0 (List.length r)) (ob ++ [some (O.row 1 0 (List.map (eI .u8) r))]) := by
 refine valid_X (lx_ok γ) (fn := Tryd.f83) (rs := [.tmp 2]) Tryd.func83 (by kernel_rfl) rfl rfl Tryd.ntmps83 rfl (by simp) fun hb hob => ?_
 have hq := rd4 hv0
 rw [varint_List] at h
 refine X_sr (lx_ok γ) ?_
 simp -implicitDefEqProofs only [go_sem, seval, hq]
 refine X_sr (lx_ok γ) ?_
 simp -implicitDefEqProofs only [go_sem, seval, hq]
 refine X_seq ?_
 refine X_sr (lx_ok γ) ?_
 simp -implicitDefEqProofs only [go_sem, seval, hq]
 refine X_jq (J := fun as1 ob1 => ∃ (x1 : List Int), varint_List.k1 x1 = some r ∧ [(3, V.row ob.length 0 0 (List.length x1))] = as1 ∧ ob ++ [some (O.row 1 0 (List.map (eI .u8) x1))] = ob1) ?_ ?_
 ·rintro as1 ob1 ⟨x1, h, rfl, rfl⟩
  rw [varint_List.k1] at h
  simp -implicitDefEqProofs only [go_sem, seval, hq]
  refine X_sr (lx_ok γ) ?_
  simp -implicitDefEqProofs only [go_sem, seval, hq]
  obtain rfl := sI h
  refine X_ret ?_
  simp -implicitDefEqProofs only [go_sem, seval, hq]
  exact Rt.mv [(0, 0)] (BaseR.refl hob) (by simp) (by decide) (VM.rowL (j := 0) (t := 0) rfl (by first | rfl | simp | simp_all | omega)) ⟨⟨_, rfl, OM.row' (by first | rfl | simp_all)⟩, trivial⟩
 ·refine X_block ?_
  obtain ⟨lr1, hl1, hk1, hr1⟩ := aft2 h
  refine X_forN hl1 (fun (i1 : Nat) (s : (List Int)) as1 ob1 => [(3, V.row ob.length 0 0 (List.length s)), (6, v0), (7, vint .i64 (List.length a0 : Int)), (8, vint .i64 (i1 : Int))] = as1 ∧ ob ++ [some (O.row 1 0 (List.map (eI .u8) s))] = ob1) ⟨_, _, ?_, rfl, rfl⟩ ?_ ?_
  ·exact To.trans (To.ghost (as' := [(3, V.row ob.length 0 0 0), (6, _), (7, _), (8, _)]) 1 ⟨VG.nilL, VG.refl _ _ _, VG.refl _ _ _, VG.refl _ _ _, trivial⟩) (To.mv [(0, 0)] (BaseR.refl hob) (by simp) (by decide) (by simp only [go_sem]; exact ⟨VM.rowL (j := 0) (t := 0) rfl (by simp), VM.self (by simpa using Bd.of_rdK hv0), vS, VM.eqv (by simp) (by simp)⟩) ⟨⟨_, rfl, OM.row' rfl⟩, trivial⟩)
  ·rintro i1 x1 o1 hi1 hw1 h ho1 as1 ob1 ⟨rfl, rfl⟩
   rw [varint_List.b1] at h
   refine X_sr (lx_ok γ) ?_
   simp -implicitDefEqProofs only [go_sem, seval, hi1, hq]
   refine X_seq ?_
   refine X_cond (lx_ok γ) ?_
   simp -implicitDefEqProofs only [go_sem, seval, hi1, hq]
   refine X_skip ?_
   try simp -implicitDefEqProofs only [go_sem]
   refine X_seq ?_
   refine X_block ?_
   refine X_sr (lx_ok γ) ?_
   obtain ⟨x3, f1, h⟩ := bindE h
   obtain ⟨f2, f3⟩ := ixL_nat f1
   have f4 : (0 : Int) ≤ (i1 : Int) := Int.natCast_nonneg _
   simp -implicitDefEqProofs only [go_sem, seval, hi1, hq, f2, f3, f4]
   refine X_reg (lx_ok γ) ?_
   obtain ⟨x4, f5, h⟩ := bindE h
   simp -implicitDefEqProofs only [go_sem, seval, hi1, hq]
   refine callV_eq (Valid.frzR (b := ob) (l := [some (O.row 1 0 (List.map (eI .u8) x1))]) (l' := [none]) (args := [V.row ob.length 0 0 (List.length x1), vint .i64 x3]) (args' := [V.tr (.sl 1 false (List.map (eI .u8) x1)), vint .i64 x3]) 0 rfl rfl ⟨VZ.row (by first | rfl | simp), VZ.refl, trivial⟩ (varint_Put_ok γ _  f5)) rfl rfl ?_
   simp -implicitDefEqProofs only [go_sem, seval, hi1, hq]
   refine X_reg (lx_ok γ) ?_
   obtain rfl := sI h
   simp -implicitDefEqProofs only [go_sem, seval, hi1, hq]
   refine kR_in rfl ?_ ⟨rfl, rfl⟩
   exact To.mv [(1, 0)] (BaseR.refl hob) (by simp) (by decide) (by simp only [go_sem]; exact ⟨VM.rowL (j := 1) (t := 0) rfl (by first | rfl | simp | simp_all | omega), VM.self (by simpa using Bd.of_rdK hv0), vS, VM.eqv (by rw [hw1]) (by simp)⟩) ⟨⟨_, rfl, OM.row' (by first | rfl | simp_all)⟩, trivial⟩
  ·rintro i1 x1 hi1 hn1 as1 ob1 ⟨rfl, rfl⟩
   refine X_sr (lx_ok γ) ?_
   simp -implicitDefEqProofs only [go_sem, seval, hi1, hq]
   refine X_seq ?_
   refine X_cond (lx_ok γ) ?_
   simp -implicitDefEqProofs only [go_sem, seval, hi1, hq]
   have h := hk1 _ (.inl hn1)
   refine X_exit ?_
   try simp -implicitDefEqProofs only [go_sem, ↓reduceIte, Nat.reduceEqDiff, reduceCtorEq]
   refine kJ_in ?_ ⟨x1, h, rfl, rfl⟩
   exact To.mv [(0, 0)] (BaseR.refl hob) (by simp) (by decide) (by simp only [go_sem]; exact VM.rowL (j := 0) (t := 0) rfl (by first | rfl | simp | simp_all | omega)) ⟨⟨_, rfl, OM.row' (by first | rfl | simp_all)⟩, trivial⟩
end Go.Pf
end
section
set_option maxRecDepth 100000
namespace Go.Pf
open Go Go.Ab Go.Pp Go.Proofs Go.Proofs.S04
attribute [local go_sem] Lxτ Lxγ gam0 Int.toNat_natCast tau3 tau4 tau5 tau28 tau45 tau71 eI eB eS e_Ins e_Block e_Func e_Prog e_code_writer e_code_reader e_Edge
set_option maxHeartbeats 1000000 in
theorem code_writer_put_ok (γ : GT) (ob : OT) {o0 r0 e0 : Nat} {a0 : code_writer} {a1 : List Int} (hx0 : getO ob o0 = some (O.box [V.row r0 e0 0 (List.length a0.b), vbool a0.bad])) (hr0 : getO ob r0 = some (O.row 1 e0 (List.map (eI .u8) a0.b))) {r : code_writer} (h : code_writer_put a0 a1 = some r) :
  Valid (Lx γ) 60 [V.ref o0 0, V.tr (.sl 1 false (List.map (eI .i64) a1))] ob (V.tup []) ((List.set (List.set ob r0 none) o0 (some (O.box [V.row ob.length 0 0 (List.length r.b), vbool r.bad]))) ++ [some (O.row 1 0 (List.map (eI .u8) r.b))]) := by
 refine valid_X (lx_ok γ) (fn := Tryd.f60) (rs := []) Tryd.func60 (by kernel_rfl) rfl rfl Tryd.ntmps60 rfl (by simp) fun hb hob => ?_
 have hoa0 := getO_lt hx0
 refine X.to (To.take (as' := [(0, V.ref o0 0), (1, V.tr (.sl 1 false (List.map (eI .i64) a1)))]) hr0 (by simp only [go_sem]; exact ⟨VT.refl, VT.refl⟩) (TK.two (cs' := [V.row ob.length 0 0 (List.length a0.b), vbool a0.bad]) hr0 hx0 ⟨VT.row, VT.refl, trivial⟩)) ?_
 rw [← length_setO (ob := ob) (o := r0) (x := none)] at hoa0
 have hob2 : TBd (List.set ob r0 none).length (List.set ob r0 none) := by rw [length_setO]; exact hob.del
 rw [← length_setO (ob := ob) (o := r0) (x := none)]
 clear hb hob
 generalize List.set ob r0 none = ob at hob2 hoa0 ⊢
 have hob := hob2
 have hsA : ∀ (x : Option O) (l : OT), getO (List.set ob o0 x ++ l) o0 = x := fun _ _ => getO_selfA hoa0
 have hsB : ∀ (x : Option O), getO (List.set ob o0 x) o0 = x := fun _ => getO_self hoa0
 have hsC : ∀ (x y : Option O) (l : OT), List.set (List.set ob o0 x ++ l) o0 y = List.set ob o0 y ++ l := fun _ _ _ => set_selfA hoa0
 rw [code_writer_put] at h
 refine X_sr (lx_ok γ) ?_
 simp -implicitDefEqProofs only [go_sem, seval, hsA, hsB, hsC]
 refine X_jq (J := fun as1 ob1 => ∃ (x1 : List Int) (x2 : Bool), code_writer_put.k1 x1 x2 = some r ∧ [] = as1 ∧ (List.set ob o0 (some (O.box [V.row ob.length 0 0 (List.length x1), vbool x2]))) ++ [some (O.row 1 0 (List.map (eI .u8) x1))] = ob1) ?_ ?_
 ·rintro as1 ob1 ⟨x1, x2, h, rfl, rfl⟩
  rw [code_writer_put.k1] at h
  obtain rfl := sI h
  simp -implicitDefEqProofs only [go_sem, seval, hsA, hsB, hsC]
  exact Rt.mv2 [(0, 0)] (BaseM.set hob (by exact ⟨VM.rowL (j := 0) (t := 0) rfl (by first | rfl | simp | simp_all | omega), vS, trivial⟩)) (by simp) (by decide) (VM.tup trivial) ⟨⟨_, rfl, OM.row' (by first | rfl | simp_all)⟩, trivial⟩
 ·refine X_block ?_
  obtain ⟨lr1, hl1, hk1, hr1⟩ := aft2 h
  refine X_forN hl1 (fun (i1 : Nat) (s : (List Int) × Bool) as1 ob1 => [(0, V.ref o0 0), (6, V.tr (.sl 1 false (List.map (eI .i64) a1))), (7, vint .i64 (List.length a1 : Int)), (8, vint .i64 (i1 : Int))] = as1 ∧ (List.set ob o0 (some (O.box [V.row ob.length 0 0 (List.length s.1), vbool s.2]))) ++ [some (O.row 1 0 (List.map (eI .u8) s.1))] = ob1) ⟨_, _, ?_, rfl, rfl⟩ ?_ ?_
  ·exact To.mv2 [(0, 0)] (BaseM.set hob (by exact ⟨VM.rowL (j := 0) (t := 0) rfl (by first | rfl | simp | simp_all | omega), vS, trivial⟩)) (by simp) (by decide) (by simp only [go_sem]; exact ⟨VM.self (by simp [*]), vS, vS, VM.eqv (by simp) (by simp)⟩) ⟨⟨_, rfl, OM.row' (by first | rfl | simp_all)⟩, trivial⟩
  ·rintro i1 ⟨x1, x2⟩ o1 hi1 hw1 h ho1 as1 ob1 ⟨rfl, rfl⟩
   rw [code_writer_put.b1] at h
   refine X_sr (lx_ok γ) ?_
   simp -implicitDefEqProofs only [go_sem, seval, hi1, hsA, hsB, hsC]
   refine X_seq ?_
   refine X_cond (lx_ok γ) ?_
   simp -implicitDefEqProofs only [go_sem, seval, hi1, hsA, hsB, hsC]
   refine X_skip ?_
   try simp -implicitDefEqProofs only [go_sem]
   refine X_seq ?_
   refine X_block ?_
   refine X_sr (lx_ok γ) ?_
   obtain ⟨x4, f1, h⟩ := bindE h
   obtain ⟨f2, f3⟩ := ixL_nat f1
   have f4 : (0 : Int) ≤ (i1 : Int) := Int.natCast_nonneg _
   simp -implicitDefEqProofs only [go_sem, seval, hi1, hsA, hsB, hsC, f2, f3, f4]
   refine X_seq ?_
   refine X_jq (J := fun as1 ob1 => ∃ (x5 : Bool), code_writer_put.j1 x1 x4 x5 = some o1 ∧ [(0, V.ref o0 0), (5, vint .i64 x4), (6, V.tr (.sl 1 false (List.map (eI .i64) a1))), (7, vint .i64 (List.length a1 : Int)), (8, vint .i64 (i1 : Int))] = as1 ∧ (List.set ob o0 (some (O.box [V.row ob.length 0 0 (List.length x1), vbool x5]))) ++ [some (O.row 1 0 (List.map (eI .u8) x1))] = ob1) ?_ ?_
   ·rintro as1 ob1 ⟨x5, h, rfl, rfl⟩
    rw [code_writer_put.j1] at h
    simp -implicitDefEqProofs only [go_sem, seval, hi1, hsA, hsB, hsC]
    refine X_drawn (lx_ok γ) [[], [], [1], [1, 2], [1, 2, 3], [], [5], [5, 6], [1, 2, 3, 4, 5, 6, 7], [0, 1, 2, 3, 4, 5, 6, 7, 8], [0, 1, 2, 3, 4, 5, 6, 7, 8, 9], [0, 1, 2, 3, 4, 5, 6, 7, 8, 9, 10]] (fun i => match i with | 7 => true | 8 => true | 11 => true | _ => false) (by kernel_rfl) ?_
    obtain ⟨x6, f5, h⟩ := bindE h
    try simp -implicitDefEqProofs only [go_sem, seval, hi1, hsA, hsB, hsC, cmpr, List.getD_cons_zero, List.getD_cons_succ, List.contains_cons, List.contains_nil, Nat.reduceBEq, Bool.false_or, Bool.or_false, Bool.true_or, Bool.or_true, beq_self_eq_true]
    refine callV_eq (varint_List_ok γ _ (by simp -implicitDefEqProofs only [go_sem, seval, hi1, hsA, hsB, hsC]; try rfl) f5) rfl rfl ?_
    obtain ⟨x7, f6, h⟩ := bindE h
    have f7 : List.length x7 ≤ 140737488355328 := by have := (appL_some f6).1; rw [(appL_some f6).2]; simpa using this
    have f8 : List.map (eI .u8) x1 ++ List.map (eI .u8) x6 = List.map (eI .u8) x7 := by rw [(appL_some f6).2]; simp [eB, eI, eS]
    have f9 : List.length x1 + List.length x6 = List.length x7 := by rw [(appL_some f6).2]; simp
    try simp -implicitDefEqProofs only [go_sem, seval, hi1, hsA, hsB, hsC, f7, f8, f9, cmpr, List.getD_cons_zero, List.getD_cons_succ, List.contains_cons, List.contains_nil, Nat.reduceBEq, Bool.false_or, Bool.or_false, Bool.true_or, Bool.or_true, beq_self_eq_true]
    refine X_reg (lx_ok γ) ?_
    obtain rfl := sI h
    simp -implicitDefEqProofs only [go_sem, seval, hi1, hsA, hsB, hsC]
    refine kR_in rfl ?_ ⟨rfl, rfl⟩
    exact To.mv2 [(0, 1)] (BaseM.set hob (by exact ⟨VM.rowL (j := 0) (t := 0) rfl (by first | rfl | simp | simp_all | omega), vS, trivial⟩)) (by simp) (by decide) (by simp only [go_sem]; exact ⟨VM.self (by simp [*]), vS, vS, VM.eqv (by rw [hw1]) (by simp)⟩) ⟨⟨_, rfl, OM.row' (by first | rfl | simp_all)⟩, trivial⟩
   ·refine X_reg (lx_ok γ) ?_
    cases f10 : x2
    ·rw [if_neg (nF f10)] at h
     simp -implicitDefEqProofs only [go_sem, seval, hi1, f10, hsA, hsB, hsC]
     refine kJ_in ?_ ⟨(decide (x4 < 0)), h, rfl, rfl⟩
     exact To.mv2 [(0, 0)] (BaseM.set hob (by exact ⟨VM.rowL (j := 0) (t := 0) rfl (by first | rfl | simp | simp_all | omega), vS, trivial⟩)) (by simp) (by decide) (by simp only [go_sem]; exact ⟨VM.self (by simp [*]), vS, vS, vS, vS⟩) ⟨⟨_, rfl, OM.row' (by first | rfl | simp_all)⟩, trivial⟩
    ·rw [if_pos f10] at h
     simp -implicitDefEqProofs only [go_sem, seval, hi1, f10, hsA, hsB, hsC]
     refine kJ_in ?_ ⟨true, h, rfl, rfl⟩
     exact To.mv2 [(0, 0)] (BaseM.set hob (by exact ⟨VM.rowL (j := 0) (t := 0) rfl (by first | rfl | simp | simp_all | omega), vS, trivial⟩)) (by simp) (by decide) (by simp only [go_sem]; exact ⟨VM.self (by simp [*]), vS, vS, vS, vS⟩) ⟨⟨_, rfl, OM.row' (by first | rfl | simp_all)⟩, trivial⟩
  ·rintro i1 ⟨x1, x2⟩ hi1 hn1 as1 ob1 ⟨rfl, rfl⟩
   refine X_sr (lx_ok γ) ?_
   simp -implicitDefEqProofs only [go_sem, seval, hi1, hsA, hsB, hsC]
   refine X_seq ?_
   refine X_cond (lx_ok γ) ?_
   simp -implicitDefEqProofs only [go_sem, seval, hi1, hsA, hsB, hsC]
   have h := hk1 _ (.inl hn1)
   refine X_exit ?_
   try simp -implicitDefEqProofs only [go_sem, ↓reduceIte, Nat.reduceEqDiff, reduceCtorEq]
   refine kJ_in ?_ ⟨x1, x2, h, rfl, rfl⟩
   exact To.mv2 [(0, 0)] (BaseM.set hob (by exact ⟨VM.rowL (j := 0) (t := 0) rfl (by first | rfl | simp | simp_all | omega), vS, trivial⟩)) (by simp) (by decide) trivial ⟨⟨_, rfl, OM.row' (by first | rfl | simp_all)⟩, trivial⟩
end Go.Pf
end
section
set_option maxRecDepth 100000
namespace Go.Pf
open Go Go.Ab Go.Pp Go.Proofs Go.Proofs.S04
attribute [local go_sem] Lxτ Lxγ gam0 Int.toNat_natCast tau3 tau5 tau28 tau35 eI eB eS e_Ins e_Block e_Func e_Prog e_code_writer e_code_reader e_Edge
set_option maxHeartbeats 1000000 in
theorem code_field_ok (γ : GT) (ob : OT) {o0 : Nat} {a0 : Ins} {u0_6 : V} {a1 : Int} (hx0 : getO ob o0 = some (O.box [vint .i64 a0.Op, vint .i64 a0.D, vint .i64 a0.A, vint .i64 a0.B, vint .i64 a0.N, vint .i64 a0.M, u0_6])) {r : Nat} (h : code_field a0 a1 = some r) :
  Valid (Lx γ) 106 [V.ref o0 0, vint .u8 a1] ob (V.ref o0 r) ob := by
 refine valid_X (lx_ok γ) (fn := Tryd.f106) (rs := [.tmp 4]) Tryd.func106 (by kernel_rfl) rfl rfl Tryd.ntmps106 rfl (by simp) fun hb hob => ?_
 have hoa0 := getO_lt hx0
 have bu0_6 : Bd ob.length u0_6 := hob _ _ hx0 u0_6 (by simp)
 rw [code_field] at h
 refine X_sr (lx_ok γ) ?_
 simp -implicitDefEqProofs only [go_sem, seval, hx0, getO_ext hx0]
 refine X_seq ?_
 refine X_sr (lx_ok γ) ?_
 simp -implicitDefEqProofs only [go_sem, seval, hx0, getO_ext hx0]
 refine X_block ?_
 refine X_sr (lx_ok γ) ?_
 simp -implicitDefEqProofs only [go_sem, seval, hx0, getO_ext hx0]
 cases f1 : (a1 == 68)
 ·rw [if_neg (nF f1)] at h
  refine X_cond (lx_ok γ) ?_
  simp -implicitDefEqProofs only [go_sem, seval, f1, hx0, getO_ext hx0]
  refine X_sr (lx_ok γ) ?_
  simp -implicitDefEqProofs only [go_sem, seval, f1, hx0, getO_ext hx0]
  cases f2 : (a1 == 65)
  ·rw [if_neg (nF f2)] at h
   refine X_cond (lx_ok γ) ?_
   simp -implicitDefEqProofs only [go_sem, seval, f1, f2, hx0, getO_ext hx0]
   refine X_sr (lx_ok γ) ?_
   simp -implicitDefEqProofs only [go_sem, seval, f1, f2, hx0, getO_ext hx0]
   cases f3 : (a1 == 66)
   ·rw [if_neg (nF f3)] at h
    refine X_cond (lx_ok γ) ?_
    simp -implicitDefEqProofs only [go_sem, seval, f1, f2, f3, hx0, getO_ext hx0]
    refine X_sr (lx_ok γ) ?_
    simp -implicitDefEqProofs only [go_sem, seval, f1, f2, f3, hx0, getO_ext hx0]
    cases f4 : (a1 == 77)
    ·rw [if_neg (nF f4)] at h
     refine X_cond (lx_ok γ) ?_
     simp -implicitDefEqProofs only [go_sem, seval, f1, f2, f3, f4, hx0, getO_ext hx0]
     refine X_skip ?_
     try simp -implicitDefEqProofs only [go_sem]
     refine X_sr (lx_ok γ) ?_
     simp -implicitDefEqProofs only [go_sem, seval, f1, f2, f3, f4, hx0, getO_ext hx0]
     obtain rfl := sI h
     refine X_ret ?_
     simp -implicitDefEqProofs only [go_sem, seval, f1, f2, f3, f4, hx0, getO_ext hx0]
     exact Rt.mv1 (BaseR.refl hob) (by simp) (VM.self (by simp [*]))
    ·rw [if_pos f4] at h
     refine X_cond (lx_ok γ) ?_
     simp -implicitDefEqProofs only [go_sem, seval, f1, f2, f3, f4, hx0, getO_ext hx0]
     refine X_sr (lx_ok γ) ?_
     simp -implicitDefEqProofs only [go_sem, seval, f1, f2, f3, f4, hx0, getO_ext hx0]
     obtain rfl := sI h
     refine X_ret ?_
     simp -implicitDefEqProofs only [go_sem, seval, f1, f2, f3, f4, hx0, getO_ext hx0]
     exact Rt.mv1 (BaseR.refl hob) (by simp) (VM.self (by simp [*]))
   ·rw [if_pos f3] at h
    refine X_cond (lx_ok γ) ?_
    simp -implicitDefEqProofs only [go_sem, seval, f1, f2, f3, hx0, getO_ext hx0]
    refine X_sr (lx_ok γ) ?_
    simp -implicitDefEqProofs only [go_sem, seval, f1, f2, f3, hx0, getO_ext hx0]
    obtain rfl := sI h
    refine X_ret ?_
    simp -implicitDefEqProofs only [go_sem, seval, f1, f2, f3, hx0, getO_ext hx0]
    exact Rt.mv1 (BaseR.refl hob) (by simp) (VM.self (by simp [*]))
  ·rw [if_pos f2] at h
   refine X_cond (lx_ok γ) ?_
   simp -implicitDefEqProofs only [go_sem, seval, f1, f2, hx0, getO_ext hx0]
   refine X_sr (lx_ok γ) ?_
   simp -implicitDefEqProofs only [go_sem, seval, f1, f2, hx0, getO_ext hx0]
   obtain rfl := sI h
   refine X_ret ?_
   simp -implicitDefEqProofs only [go_sem, seval, f1, f2, hx0, getO_ext hx0]
   exact Rt.mv1 (BaseR.refl hob) (by simp) (VM.self (by simp [*]))
 ·rw [if_pos f1] at h
  refine X_cond (lx_ok γ) ?_
  simp -implicitDefEqProofs only [go_sem, seval, f1, hx0, getO_ext hx0]
  refine X_sr (lx_ok γ) ?_
  simp -implicitDefEqProofs only [go_sem, seval, f1, hx0, getO_ext hx0]
  obtain rfl := sI h
  refine X_ret ?_
  simp -implicitDefEqProofs only [go_sem, seval, f1, hx0, getO_ext hx0]
  exact Rt.mv1 (BaseR.refl hob) (by simp) (VM.self (by simp [*]))
end Go.Pf
end
section
set_option maxRecDepth 100000
namespace Go.Pf
open Go Go.Ab Go.Pp Go.Proofs Go.Proofs.S04
attribute [local go_sem] Lxτ Lxγ gam0 Int.toNat_natCast tau3 tau5 tau9 tau28 tau35 tau122 eI eB eS e_Ins e_Block e_Func e_Prog e_code_writer e_code_reader e_Edge
set_option maxHeartbeats 1000000 in
theorem code_bare_ok (γ : GT) (ob : OT) {a0 : Ins} {r : Bool} (h : code_bare a0 = some r) :
  Valid (Lx γ) 104 [V.agg [vint .i64 a0.Op, vint .i64 a0.D, vint .i64 a0.A, vint .i64 a0.B, vint .i64 a0.N, vint .i64 a0.M, V.tr (.sl 1 false (List.map (eI .i64) a0.Args))]] ob (vbool r) ob := by
 refine valid_X (lx_ok γ) (fn := Tryd.f104) (rs := [.tmp 2]) Tryd.func104 (by kernel_rfl) rfl rfl Tryd.ntmps104 rfl (by simp) fun hb hob => ?_
 rw [code_bare] at h
 refine X_sr (lx_ok γ) ?_
 simp -implicitDefEqProofs only [go_sem, seval]
 refine X_seq ?_
 refine X_sr (lx_ok γ) ?_
 obtain ⟨x1, f1, h⟩ := bindE h
 simp -implicitDefEqProofs only [go_sem, seval]
 refine callV_eq (code_Parts_ok γ _  f1) rfl rfl ?_
 simp -implicitDefEqProofs only [go_sem, seval]
 refine X_jq (J := fun as1 ob1 => ∃ (x2 : Int) (x3 : Int) (x4 : Int) (x5 : Int) (x6 : Int) (x7 : List Int), code_bare.k1 x2 x3 x4 x5 x6 x7 = some r ∧ [(1, V.ref ob.length 0)] = as1 ∧ ob ++ [some (O.box [vint .i64 a0.Op, vint .i64 x2, vint .i64 x3, vint .i64 x4, vint .i64 x5, vint .i64 x6, V.tr (.sl 1 false (List.map (eI .i64) x7))])] = ob1) ?_ ?_
 ·rintro as1 ob1 ⟨x2, x3, x4, x5, x6, x7, h, rfl, rfl⟩
  rw [code_bare.k1] at h
  simp -implicitDefEqProofs only [go_sem, seval]
  refine X_sr (lx_ok γ) ?_
  cases f2 : (x2 == 0)
  ·rw [if_neg (nF f2)] at h
   simp -implicitDefEqProofs only [go_sem, seval, f2]
   obtain rfl := sI h
   refine X_ret ?_
   simp -implicitDefEqProofs only [go_sem, seval, f2]
   exact Rt.mv0 (BaseR.refl hob) (by simp) (vS)
  ·rw [if_pos f2] at h
   cases f3 : (x3 == 0)
   ·rw [if_neg (nF f3)] at h
    simp -implicitDefEqProofs only [go_sem, seval, f2, f3]
    obtain rfl := sI h
    refine X_ret ?_
    simp -implicitDefEqProofs only [go_sem, seval, f2, f3]
    exact Rt.mv0 (BaseR.refl hob) (by simp) (vS)
   ·rw [if_pos f3] at h
    cases f4 : (x4 == 0)
    ·rw [if_neg (nF f4)] at h
     simp -implicitDefEqProofs only [go_sem, seval, f2, f3, f4]
     obtain rfl := sI h
     refine X_ret ?_
     simp -implicitDefEqProofs only [go_sem, seval, f2, f3, f4]
     exact Rt.mv0 (BaseR.refl hob) (by simp) (vS)
    ·rw [if_pos f4] at h
     cases f5 : (x5 == 0)
     ·rw [if_neg (nF f5)] at h
      simp -implicitDefEqProofs only [go_sem, seval, f2, f3, f4, f5]
      obtain rfl := sI h
      refine X_ret ?_
      simp -implicitDefEqProofs only [go_sem, seval, f2, f3, f4, f5]
      exact Rt.mv0 (BaseR.refl hob) (by simp) (vS)
     ·rw [if_pos f5] at h
      cases f6 : (x6 == 0)
      ·rw [if_neg (nF f6)] at h
       simp -implicitDefEqProofs only [go_sem, seval, f2, f3, f4, f5, f6]
       obtain rfl := sI h
       refine X_ret ?_
       simp -implicitDefEqProofs only [go_sem, seval, f2, f3, f4, f5, f6]
       exact Rt.mv0 (BaseR.refl hob) (by simp) (vS)
      ·rw [if_pos f6] at h
       simp -implicitDefEqProofs only [go_sem, seval, f2, f3, f4, f5, f6]
       obtain rfl := sI h
       refine X_ret ?_
       simp -implicitDefEqProofs only [go_sem, seval, f2, f3, f4, f5, f6]
       exact Rt.mv0 (BaseR.refl hob) (by simp) (vS)
 ·refine X_block ?_
  obtain ⟨lr1, hl1, hk1, hr1⟩ := aft2 h
  refine X_forN hl1 (fun (i1 : Nat) (s : Int × Int × Int × Int × Int × (List Int)) as1 ob1 => [(1, V.ref ob.length 0), (8, vint .i64 (ByteArray.size x1 : Int)), (9, vint .i64 (i1 : Int))] = as1 ∧ ob ++ [some (O.box [vint .i64 a0.Op, vint .i64 s.1, vint .i64 s.2.1, vint .i64 s.2.2.1, vint .i64 s.2.2.2.1, vint .i64 s.2.2.2.2.1, V.tr (.sl 1 false (List.map (eI .i64) s.2.2.2.2.2))])] = ob1) ⟨_, _, ?_, rfl, rfl⟩ ?_ ?_
  ·exact To.mv [(0, 0)] (BaseR.refl hob) (by simp) (by decide) (by simp only [go_sem]; exact ⟨VM.refA (j := 0) (t := 0) rfl, vS, VM.eqv (by simp) (by simp)⟩) ⟨⟨_, rfl, OM.box _ _ ⟨vS, vS, vS, vS, vS, vS, vS, trivial⟩⟩, trivial⟩
  ·rintro i1 ⟨x2, x3, x4, x5, x6, x7⟩ o1 hi1 hw1 h ho1 as1 ob1 ⟨rfl, rfl⟩
   rw [code_bare.b1] at h
   refine X_sr (lx_ok γ) ?_
   simp -implicitDefEqProofs only [go_sem, seval, hi1]
   refine X_seq ?_
   refine X_cond (lx_ok γ) ?_
   simp -implicitDefEqProofs only [go_sem, seval, hi1]
   refine X_skip ?_
   try simp -implicitDefEqProofs only [go_sem]
   refine X_seq ?_
   refine X_block ?_
   refine X_sr (lx_ok γ) ?_
   simp -implicitDefEqProofs only [go_sem, seval, hi1]
   refine X_sr (lx_ok γ) ?_
   obtain ⟨x9, f7, h⟩ := bindE h
   simp -implicitDefEqProofs only [go_sem, seval, hi1]
   refine callV_eq (code_Parts_ok γ _  f7) rfl rfl ?_
   obtain ⟨x10, f8, h⟩ := bindE h
   obtain ⟨f9, f10, f11, f12⟩ := ixS_some f8
   try simp only [Int.toNat_natCast, Int.reduceToNat] at f11
   replace f12 := f12.symm
   simp -implicitDefEqProofs only [go_sem, seval, hi1, f9, f11, f12]
   refine X_sr (lx_ok γ) ?_
   simp -implicitDefEqProofs only [go_sem, seval, hi1]
   refine X_block ?_
   refine X_sr (lx_ok γ) ?_
   simp -implicitDefEqProofs only [go_sem, seval, hi1]
   cases f13 : (x10 == 76)
   ·rw [if_neg (nF f13)] at h
    refine X_cond (lx_ok γ) ?_
    simp -implicitDefEqProofs only [go_sem, seval, hi1, f13]
    refine X_reg (lx_ok γ) ?_
    cases f14 : (x10 == 68)
    ·rw [if_neg (nF f14)] at h
     cases f15 : (x10 == 65)
     ·rw [if_neg (nF f15)] at h
      cases f16 : (x10 == 66)
      ·rw [if_neg (nF f16)] at h
       cases f17 : (x10 == 77)
       ·rw [if_neg (nF f17)] at h
        have f18 : code_field (Ins.mk a0.Op x2 x3 x4 x5 x6 x7) x10 = some 4 := by simp only [code_field, hi1, f13, f14, f15, f16, f17, if_true, if_false, Bool.false_eq_true]
        simp -implicitDefEqProofs only [go_sem, seval, hi1, f13, f14, f15, f16, f17]
        refine callV_eq (code_field_ok γ _ (by simp -implicitDefEqProofs only [go_sem, seval, hi1, f13]; try rfl) f18) rfl rfl ?_
        simp -implicitDefEqProofs only [go_sem, seval, hi1, f13, f14, f15, f16, f17]
        refine X_reg (lx_ok γ) ?_
        obtain rfl := sI h
        simp -implicitDefEqProofs only [go_sem, seval, hi1, f13, f14, f15, f16, f17]
        refine kR_in rfl ?_ ⟨rfl, rfl⟩
        exact To.mv [(0, 0)] (BaseR.refl hob) (by simp) (by decide) (by simp only [go_sem]; exact ⟨VM.refA (j := 0) (t := 0) rfl, vS, VM.eqv (by rw [hw1]) (by simp)⟩) ⟨⟨_, rfl, OM.box _ _ ⟨vS, vS, vS, vS, vS, vS, vS, trivial⟩⟩, trivial⟩
       ·rw [if_pos f17] at h
        have f19 : code_field (Ins.mk a0.Op x2 x3 x4 x5 x6 x7) x10 = some 5 := by simp only [code_field, hi1, f13, f14, f15, f16, f17, if_true, if_false, Bool.false_eq_true]
        simp -implicitDefEqProofs only [go_sem, seval, hi1, f13, f14, f15, f16, f17]
        refine callV_eq (code_field_ok γ _ (by simp -implicitDefEqProofs only [go_sem, seval, hi1, f13]; try rfl) f19) rfl rfl ?_
        simp -implicitDefEqProofs only [go_sem, seval, hi1, f13, f14, f15, f16, f17]
        refine X_reg (lx_ok γ) ?_
        obtain rfl := sI h
        simp -implicitDefEqProofs only [go_sem, seval, hi1, f13, f14, f15, f16, f17]
        refine kR_in rfl ?_ ⟨rfl, rfl⟩
        exact To.mv [(0, 0)] (BaseR.refl hob) (by simp) (by decide) (by simp only [go_sem]; exact ⟨VM.refA (j := 0) (t := 0) rfl, vS, VM.eqv (by rw [hw1]) (by simp)⟩) ⟨⟨_, rfl, OM.box _ _ ⟨vS, vS, vS, vS, vS, vS, vS, trivial⟩⟩, trivial⟩
      ·rw [if_pos f16] at h
       have f20 : code_field (Ins.mk a0.Op x2 x3 x4 x5 x6 x7) x10 = some 3 := by simp only [code_field, hi1, f13, f14, f15, f16, if_true, if_false, Bool.false_eq_true]
       simp -implicitDefEqProofs only [go_sem, seval, hi1, f13, f14, f15, f16]
       refine callV_eq (code_field_ok γ _ (by simp -implicitDefEqProofs only [go_sem, seval, hi1, f13]; try rfl) f20) rfl rfl ?_
       simp -implicitDefEqProofs only [go_sem, seval, hi1, f13, f14, f15, f16]
       refine X_reg (lx_ok γ) ?_
       obtain rfl := sI h
       simp -implicitDefEqProofs only [go_sem, seval, hi1, f13, f14, f15, f16]
       refine kR_in rfl ?_ ⟨rfl, rfl⟩
       exact To.mv [(0, 0)] (BaseR.refl hob) (by simp) (by decide) (by simp only [go_sem]; exact ⟨VM.refA (j := 0) (t := 0) rfl, vS, VM.eqv (by rw [hw1]) (by simp)⟩) ⟨⟨_, rfl, OM.box _ _ ⟨vS, vS, vS, vS, vS, vS, vS, trivial⟩⟩, trivial⟩
     ·rw [if_pos f15] at h
      have f21 : code_field (Ins.mk a0.Op x2 x3 x4 x5 x6 x7) x10 = some 2 := by simp only [code_field, hi1, f13, f14, f15, if_true, if_false, Bool.false_eq_true]
      simp -implicitDefEqProofs only [go_sem, seval, hi1, f13, f14, f15]
      refine callV_eq (code_field_ok γ _ (by simp -implicitDefEqProofs only [go_sem, seval, hi1, f13]; try rfl) f21) rfl rfl ?_
      simp -implicitDefEqProofs only [go_sem, seval, hi1, f13, f14, f15]
      refine X_reg (lx_ok γ) ?_
      obtain rfl := sI h
      simp -implicitDefEqProofs only [go_sem, seval, hi1, f13, f14, f15]
      refine kR_in rfl ?_ ⟨rfl, rfl⟩
      exact To.mv [(0, 0)] (BaseR.refl hob) (by simp) (by decide) (by simp only [go_sem]; exact ⟨VM.refA (j := 0) (t := 0) rfl, vS, VM.eqv (by rw [hw1]) (by simp)⟩) ⟨⟨_, rfl, OM.box _ _ ⟨vS, vS, vS, vS, vS, vS, vS, trivial⟩⟩, trivial⟩
    ·rw [if_pos f14] at h
     have f22 : code_field (Ins.mk a0.Op x2 x3 x4 x5 x6 x7) x10 = some 1 := by simp only [code_field, hi1, f13, f14, if_true, if_false, Bool.false_eq_true]
     simp -implicitDefEqProofs only [go_sem, seval, hi1, f13, f14]
     refine callV_eq (code_field_ok γ _ (by simp -implicitDefEqProofs only [go_sem, seval, hi1, f13]; try rfl) f22) rfl rfl ?_
     simp -implicitDefEqProofs only [go_sem, seval, hi1, f13, f14]
     refine X_reg (lx_ok γ) ?_
     obtain rfl := sI h
     simp -implicitDefEqProofs only [go_sem, seval, hi1, f13, f14]
     refine kR_in rfl ?_ ⟨rfl, rfl⟩
     exact To.mv [(0, 0)] (BaseR.refl hob) (by simp) (by decide) (by simp only [go_sem]; exact ⟨VM.refA (j := 0) (t := 0) rfl, vS, VM.eqv (by rw [hw1]) (by simp)⟩) ⟨⟨_, rfl, OM.box _ _ ⟨vS, vS, vS, vS, vS, vS, vS, trivial⟩⟩, trivial⟩
   ·rw [if_pos f13] at h
    refine X_cond (lx_ok γ) ?_
    simp -implicitDefEqProofs only [go_sem, seval, hi1, f13]
    refine X_reg (lx_ok γ) ?_
    simp -implicitDefEqProofs only [go_sem, seval, hi1, f13]
    refine X_reg (lx_ok γ) ?_
    obtain rfl := sI h
    simp -implicitDefEqProofs only [go_sem, seval, hi1, f13]
    refine kR_in rfl ?_ ⟨rfl, rfl⟩
    exact To.mv [(0, 0)] (BaseR.refl hob) (by simp) (by decide) (by simp only [go_sem]; exact ⟨VM.refA (j := 0) (t := 0) rfl, vS, VM.eqv (by rw [hw1]) (by simp)⟩) ⟨⟨_, rfl, OM.box _ _ ⟨vS, vS, vS, vS, vS, vS, VM.nil _ _ _, trivial⟩⟩, trivial⟩
  ·rintro i1 ⟨x2, x3, x4, x5, x6, x7⟩ hi1 hn1 as1 ob1 ⟨rfl, rfl⟩
   refine X_sr (lx_ok γ) ?_
   simp -implicitDefEqProofs only [go_sem, seval, hi1]
   refine X_seq ?_
   refine X_cond (lx_ok γ) ?_
   simp -implicitDefEqProofs only [go_sem, seval, hi1]
   have h := hk1 _ (.inl hn1)
   refine X_exit ?_
   try simp -implicitDefEqProofs only [go_sem, ↓reduceIte, Nat.reduceEqDiff, reduceCtorEq]
   refine kJ_in ?_ ⟨x2, x3, x4, x5, x6, x7, h, rfl, rfl⟩
   exact To.mv [(0, 0)] (BaseR.refl hob) (by simp) (by decide) (by simp only [go_sem]; exact VM.refA (j := 0) (t := 0) rfl) ⟨⟨_, rfl, OM.box _ _ ⟨vS, vS, vS, vS, vS, vS, vS, trivial⟩⟩, trivial⟩
end Go.Pf
end
section
set_option maxRecDepth 100000
namespace Go.Pf
open Go Go.Ab Go.Pp Go.Proofs Go.Proofs.S04
attribute [local go_sem] Lxτ Lxγ gam0 Int.toNat_natCast tau3 tau5 tau45 tau118 eI eB eS e_Ins e_Block e_Func e_Prog e_code_writer e_code_reader e_Edge
set_option maxHeartbeats 1000000 in
theorem varint_PutSigned_ok (γ : GT) (ob : OT) {a0 : List Int} {a1 : Int} {r : List Int} (h : varint_PutSigned a0 a1 = some r) :
  Valid (Lx γ) 105 [V.tr (.sl 1 false (List.map (eI .u8) a0)), vint .i64 a1] ob (V.row ob.length 0 0 (List.length r)) (ob ++ [some (O.row 1 0 (List.map (eI .u8) r))]) := by
 refine valid_X (lx_ok γ) (fn := Tryd.f105) (rs := [.tmp 4]) Tryd.func105 (by kernel_rfl) rfl rfl Tryd.ntmps105 rfl (by simp) fun hb hob => ?_
 rw [varint_PutSigned] at h
 refine X_sr (lx_ok γ) ?_
 simp -implicitDefEqProofs only [go_sem, seval]
 refine X_sr (lx_ok γ) ?_
 obtain ⟨x1, f1, h⟩ := bindE h
 simp -implicitDefEqProofs only [go_sem, seval]
 refine callV_eq (varint_put_ok γ _  f1) rfl rfl ?_
 simp -implicitDefEqProofs only [go_sem, seval]
 obtain rfl := sI h
 refine X_ret ?_
 simp -implicitDefEqProofs only [go_sem, seval]
 exact Rt.mv [(0, 0)] (BaseR.refl hob) (by simp) (by decide) (VM.rowL (j := 0) (t := 0) rfl (by first | rfl | simp | simp_all | omega)) ⟨⟨_, rfl, OM.row' (by first | rfl | simp_all)⟩, trivial⟩
end Go.Pf
end
section
set_option maxRecDepth 100000
namespace Go.Pf
open Go Go.Ab Go.Pp Go.Proofs Go.Proofs.S04
attribute [local go_sem] Lxτ Lxγ gam0 Int.toNat_natCast List.append_eq List.cons_append List.nil_append tau3 tau4 tau5 tau9 tau28 tau35 tau45 tau69 tau71 tau122 eI eB eS e_Ins e_Block e_Func e_Prog e_code_writer e_code_reader e_Edge
set_option maxHeartbeats 1000000 in
theorem code_writer_ins_ok (γ : GT) (ob : OT) {o0 r0 e0 : Nat} {a0 : code_writer} {a1 : Ins} (hx0 : getO ob o0 = some (O.box [V.row r0 e0 0 (List.length a0.b), vbool a0.bad])) (hr0 : getO ob r0 = some (O.row 1 e0 (List.map (eI .u8) a0.b))) {r : code_writer} (h : code_writer_ins a0 a1 = some r) :
  Valid (Lx γ) 84 [V.ref o0 0, V.agg [vint .i64 a1.Op, vint .i64 a1.D, vint .i64 a1.A, vint .i64 a1.B, vint .i64 a1.N, vint .i64 a1.M, V.tr (.sl 1 false (List.map (eI .i64) a1.Args))]] ob (V.tup []) ((List.set (List.set ob r0 none) o0 (some (O.box [V.row ob.length 0 0 (List.length r.b), vbool r.bad]))) ++ [some (O.row 1 0 (List.map (eI .u8) r.b))]) := by
 refine valid_X (lx_ok γ) (fn := Tryd.f84) (rs := []) Tryd.func84 (by kernel_rfl) rfl rfl Tryd.ntmps84 rfl (by simp) fun hb hob => ?_
 have hoa0 := getO_lt hx0
 refine X.to (To.take (as' := [(0, V.ref o0 0), (1, V.agg [vint .i64 a1.Op, vint .i64 a1.D, vint .i64 a1.A, vint .i64 a1.B, vint .i64 a1.N, vint .i64 a1.M, V.tr (.sl 1 false (List.map (eI .i64) a1.Args))])]) hr0 (by simp only [go_sem]; exact ⟨VT.refl, VT.refl⟩) (TK.two (cs' := [V.row ob.length 0 0 (List.length a0.b), vbool a0.bad]) hr0 hx0 ⟨VT.row, VT.refl, trivial⟩)) ?_
 rw [← length_setO (ob := ob) (o := r0) (x := none)] at hoa0
 have hob2 : TBd (List.set ob r0 none).length (List.set ob r0 none) := by rw [length_setO]; exact hob.del
 rw [← length_setO (ob := ob) (o := r0) (x := none)]
 clear hb hob
 generalize List.set ob r0 none = ob at hob2 hoa0 ⊢
 have hob := hob2
 have hsA : ∀ (x : Option O) (l : OT), getO (List.set ob o0 x ++ l) o0 = x := fun _ _ => getO_selfA hoa0
 have hsB : ∀ (x : Option O), getO (List.set ob o0 x) o0 = x := fun _ => getO_self hoa0
 have hsC : ∀ (x y : Option O) (l : OT), List.set (List.set ob o0 x ++ l) o0 y = List.set ob o0 y ++ l := fun _ _ _ => set_selfA hoa0
 rw [code_writer_ins] at h
 refine X_sr (lx_ok γ) ?_
 simp -implicitDefEqProofs only [go_sem, seval, hsA, hsB, hsC]
 refine X_seq ?_
 refine X_jq (J := fun as1 ob1 => ∃ (x1 : Bool), code_writer_ins.j1 a0 a1 x1 = some r ∧ [(0, V.ref o0 0), (3, V.ref ob.length 0)] = as1 ∧ (List.set ob o0 (some (O.box [V.row (ob.length + 1) 0 0 (List.length a0.b), vbool x1]))) ++ [some (O.box [vint .i64 a1.Op, vint .i64 a1.D, vint .i64 a1.A, vint .i64 a1.B, vint .i64 a1.N, vint .i64 a1.M, V.tr (.sl 1 false (List.map (eI .i64) a1.Args))]), some (O.row 1 0 (List.map (eI .u8) a0.b))] = ob1) ?_ ?_
 ·rintro as1 ob1 ⟨x1, h, rfl, rfl⟩
  rw [code_writer_ins.j1] at h
  simp -implicitDefEqProofs only [go_sem, seval, hsA, hsB, hsC]
  refine X_sr (lx_ok γ) ?_
  obtain ⟨x2, f1, h⟩ := bindE h
  simp -implicitDefEqProofs only [go_sem, seval, hsA, hsB, hsC]
  refine callV_eq (Valid.frzB (b := (List.set ob o0 (some (O.box [V.row (ob.length + 1) 0 0 (List.length a0.b), vbool x1])))) (B := ob.length) (by simp) (l := [some (O.box [vint .i64 a1.Op, vint .i64 a1.D, vint .i64 a1.A, vint .i64 a1.B, vint .i64 a1.N, vint .i64 a1.M, V.tr (.sl 1 false (List.map (eI .i64) a1.Args))]), some (O.row 1 0 (List.map (eI .u8) a0.b)), some (O.row 1 0 (List.map (eI .i64) [a1.Op]))]) (l' := [some (O.box [vint .i64 a1.Op, vint .i64 a1.D, vint .i64 a1.A, vint .i64 a1.B, vint .i64 a1.N, vint .i64 a1.M, V.tr (.sl 1 false (List.map (eI .i64) a1.Args))]), some (O.row 1 0 (List.map (eI .u8) a0.b)), none]) (args := [V.ref o0 0, V.row (ob.length + 2) 0 0 1]) (args' := [V.ref o0 0, V.tr (.sl 1 false (List.map (eI .i64) [a1.Op]))]) 2 rfl rfl ⟨VZ.refl, VZ.row (by first | rfl | simp), trivial⟩ (code_writer_put_ok γ _ (by simp -implicitDefEqProofs only [go_sem, seval, hsA, hsB, hsC]; try rfl) (by simp -implicitDefEqProofs only [go_sem, seval, hsA, hsB, hsC]; try rfl) f1)) rfl rfl ?_
  simp -implicitDefEqProofs only [go_sem, seval, hsA, hsB, hsC]
  refine X_sr (lx_ok γ) ?_
  obtain ⟨x3, f2, h⟩ := bindE h
  simp -implicitDefEqProofs only [go_sem, seval, hsA, hsB, hsC]
  refine callV_eq (code_Parts_ok γ _  f2) rfl rfl ?_
  simp -implicitDefEqProofs only [go_sem, seval, hsA, hsB, hsC]
  refine X_jq (J := fun as1 ob1 => ∃ (x4 : List Int) (x5 : Bool), code_writer_ins.k1 x4 x5 = some r ∧ [] = as1 ∧ (List.set ob o0 (some (O.box [V.row ob.length 0 0 (List.length x4), vbool x5]))) ++ [some (O.row 1 0 (List.map (eI .u8) x4))] = ob1) ?_ ?_
  ·rintro as1 ob1 ⟨x4, x5, h, rfl, rfl⟩
   rw [code_writer_ins.k1] at h
   obtain rfl := sI h
   simp -implicitDefEqProofs only [go_sem, seval, hsA, hsB, hsC]
   exact Rt.mv2 [(0, 0)] (BaseM.set hob (by exact ⟨VM.rowL (j := 0) (t := 0) rfl (by first | rfl | simp | simp_all | omega), vS, trivial⟩)) (by simp) (by decide) (VM.tup trivial) ⟨⟨_, rfl, OM.row' (by first | rfl | simp_all)⟩, trivial⟩
  ·refine X_block ?_
   obtain ⟨lr1, hl1, hk1, hr1⟩ := aft2 h
   refine X_forN hl1 (fun (i1 : Nat) (s : (List Int) × Bool) as1 ob1 => [(0, V.ref o0 0), (3, V.ref ob.length 0), (32, vint .i64 (ByteArray.size x3 : Int)), (33, vint .i64 (i1 : Int))] = as1 ∧ (List.set ob o0 (some (O.box [V.row (ob.length + 1) 0 0 (List.length s.1), vbool s.2]))) ++ [some (O.box [vint .i64 a1.Op, vint .i64 a1.D, vint .i64 a1.A, vint .i64 a1.B, vint .i64 a1.N, vint .i64 a1.M, V.tr (.sl 1 false (List.map (eI .i64) a1.Args))]), some (O.row 1 0 (List.map (eI .u8) s.1))] = ob1) ⟨_, _, ?_, rfl, rfl⟩ ?_ ?_
   ·exact To.mv2 [(0, 0), (3, 0)] (BaseM.set hob (by exact ⟨VM.rowL (j := 3) (t := 1) rfl (by first | rfl | simp | simp_all | omega), vS, trivial⟩)) (by simp) (by decide) (by simp only [go_sem]; exact ⟨VM.self (by simp [*]), VM.refA (j := 0) (t := 0) rfl, vS, VM.eqv (by simp) (by simp)⟩) ⟨⟨_, rfl, OM.box _ _ ⟨vS, vS, vS, vS, vS, vS, vS, trivial⟩⟩, ⟨_, rfl, OM.row' (by first | rfl | simp_all)⟩, trivial⟩
   ·rintro i1 ⟨x4, x5⟩ o1 hi1 hw1 h ho1 as1 ob1 ⟨rfl, rfl⟩
    rw [code_writer_ins.b1] at h
    refine X_sr (lx_ok γ) ?_
    simp -implicitDefEqProofs only [go_sem, seval, hi1, hsA, hsB, hsC]
    refine X_seq ?_
    refine X_cond (lx_ok γ) ?_
    simp -implicitDefEqProofs only [go_sem, seval, hi1, hsA, hsB, hsC]
    refine X_skip ?_
    try simp -implicitDefEqProofs only [go_sem]
    refine X_seq ?_
    refine X_block ?_
    refine X_sr (lx_ok γ) ?_
    simp -implicitDefEqProofs only [go_sem, seval, hi1, hsA, hsB, hsC]
    refine X_sr (lx_ok γ) ?_
    obtain ⟨x7, f3, h⟩ := bindE h
    simp -implicitDefEqProofs only [go_sem, seval, hi1, hsA, hsB, hsC]
    refine callV_eq (code_Parts_ok γ _  f3) rfl rfl ?_
    obtain ⟨x8, f4, h⟩ := bindE h
    obtain ⟨f5, f6, f7, f8⟩ := ixS_some f4
    try simp only [Int.toNat_natCast, Int.reduceToNat] at f7
    replace f8 := f8.symm
    simp -implicitDefEqProofs only [go_sem, seval, hi1, hsA, hsB, hsC, f5, f7, f8]
    refine X_sr (lx_ok γ) ?_
    simp -implicitDefEqProofs only [go_sem, seval, hi1, hsA, hsB, hsC]
    refine X_block ?_
    refine X_sr (lx_ok γ) ?_
    simp -implicitDefEqProofs only [go_sem, seval, hi1, hsA, hsB, hsC]
    cases f9 : (x8 == 110)
    ·rw [if_neg (nF f9)] at h
     refine X_cond (lx_ok γ) ?_
     simp -implicitDefEqProofs only [go_sem, seval, hi1, f9, hsA, hsB, hsC]
     refine X_sr (lx_ok γ) ?_
     simp -implicitDefEqProofs only [go_sem, seval, hi1, f9, hsA, hsB, hsC]
     cases f10 : (x8 == 76)
     ·rw [if_neg (nF f10)] at h
      refine X_cond (lx_ok γ) ?_
      simp -implicitDefEqProofs only [go_sem, seval, hi1, f9, f10, hsA, hsB, hsC]
      refine X_reg (lx_ok γ) ?_
      cases f11 : (x8 == 68)
      ·rw [if_neg (nF f11)] at h
       cases f12 : (x8 == 65)
       ·rw [if_neg (nF f12)] at h
        cases f13 : (x8 == 66)
        ·rw [if_neg (nF f13)] at h
         cases f14 : (x8 == 77)
         ·rw [if_neg (nF f14)] at h
          have f15 : code_field a1 x8 = some 4 := by simp only [code_field, hi1, f9, f10, f11, f12, f13, f14, if_true, if_false, Bool.false_eq_true]
          simp -implicitDefEqProofs only [go_sem, seval, hi1, f9, f10, f11, f12, f13, f14, hsA, hsB, hsC]
          refine callV_eq (code_field_ok γ _ (by simp -implicitDefEqProofs only [go_sem, seval, hi1, f9, f10, hsA, hsB, hsC]; try rfl) f15) rfl rfl ?_
          obtain ⟨x9, f16, h⟩ := bindE h
          simp -implicitDefEqProofs only [go_sem, seval, hi1, f9, f10, f11, f12, f13, f14, hsA, hsB, hsC]
          refine callV_eq (Valid.frzB (b := (List.set ob o0 (some (O.box [V.row (ob.length + 1) 0 0 (List.length x4), vbool x5])))) (B := ob.length) (by simp) (l := [some (O.box [vint .i64 a1.Op, vint .i64 a1.D, vint .i64 a1.A, vint .i64 a1.B, vint .i64 a1.N, vint .i64 a1.M, V.tr (.sl 1 false (List.map (eI .i64) a1.Args))]), some (O.row 1 0 (List.map (eI .u8) x4)), some (O.row 1 0 (List.map (eI .i64) [a1.N]))]) (l' := [some (O.box [vint .i64 a1.Op, vint .i64 a1.D, vint .i64 a1.A, vint .i64 a1.B, vint .i64 a1.N, vint .i64 a1.M, V.tr (.sl 1 false (List.map (eI .i64) a1.Args))]), some (O.row 1 0 (List.map (eI .u8) x4)), none]) (args := [V.ref o0 0, V.row (ob.length + 2) 0 0 1]) (args' := [V.ref o0 0, V.tr (.sl 1 false (List.map (eI .i64) [a1.N]))]) 2 rfl rfl ⟨VZ.refl, VZ.row (by first | rfl | simp), trivial⟩ (code_writer_put_ok γ _ (by simp -implicitDefEqProofs only [go_sem, seval, hi1, f9, f10, f11, f12, f13, f14, hsA, hsB, hsC]; try rfl) (by simp -implicitDefEqProofs only [go_sem, seval, hi1, f9, f10, f11, f12, f13, f14, hsA, hsB, hsC]; try rfl) f16)) rfl rfl ?_
          simp -implicitDefEqProofs only [go_sem, seval, hi1, f9, f10, f11, f12, f13, f14, hsA, hsB, hsC]
          refine X_reg (lx_ok γ) ?_
          obtain rfl := sI h
          simp -implicitDefEqProofs only [go_sem, seval, hi1, f9, f10, f11, f12, f13, f14, hsA, hsB, hsC]
          refine kR_in rfl ?_ ⟨rfl, rfl⟩
          exact To.mv2 [(0, 0), (3, 0)] (BaseM.set hob (by exact ⟨VM.rowL (j := 3) (t := 1) rfl (by first | rfl | simp | simp_all | omega), vS, trivial⟩)) (by simp) (by decide) (by simp only [go_sem]; exact ⟨VM.self (by simp [*]), VM.refA (j := 0) (t := 0) rfl, vS, VM.eqv (by rw [hw1]) (by simp)⟩) ⟨⟨_, rfl, OM.box _ _ ⟨vS, vS, vS, vS, vS, vS, vS, trivial⟩⟩, ⟨_, rfl, OM.row' (by first | rfl | simp_all)⟩, trivial⟩
         ·rw [if_pos f14] at h
          have f17 : code_field a1 x8 = some 5 := by simp only [code_field, hi1, f9, f10, f11, f12, f13, f14, if_true, if_false, Bool.false_eq_true]
          simp -implicitDefEqProofs only [go_sem, seval, hi1, f9, f10, f11, f12, f13, f14, hsA, hsB, hsC]
          refine callV_eq (code_field_ok γ _ (by simp -implicitDefEqProofs only [go_sem, seval, hi1, f9, f10, hsA, hsB, hsC]; try rfl) f17) rfl rfl ?_
          obtain ⟨x10, f18, h⟩ := bindE h
          simp -implicitDefEqProofs only [go_sem, seval, hi1, f9, f10, f11, f12, f13, f14, hsA, hsB, hsC]
          refine callV_eq (Valid.frzB (b := (List.set ob o0 (some (O.box [V.row (ob.length + 1) 0 0 (List.length x4), vbool x5])))) (B := ob.length) (by simp) (l := [some (O.box [vint .i64 a1.Op, vint .i64 a1.D, vint .i64 a1.A, vint .i64 a1.B, vint .i64 a1.N, vint .i64 a1.M, V.tr (.sl 1 false (List.map (eI .i64) a1.Args))]), some (O.row 1 0 (List.map (eI .u8) x4)), some (O.row 1 0 (List.map (eI .i64) [a1.M]))]) (l' := [some (O.box [vint .i64 a1.Op, vint .i64 a1.D, vint .i64 a1.A, vint .i64 a1.B, vint .i64 a1.N, vint .i64 a1.M, V.tr (.sl 1 false (List.map (eI .i64) a1.Args))]), some (O.row 1 0 (List.map (eI .u8) x4)), none]) (args := [V.ref o0 0, V.row (ob.length + 2) 0 0 1]) (args' := [V.ref o0 0, V.tr (.sl 1 false (List.map (eI .i64) [a1.M]))]) 2 rfl rfl ⟨VZ.refl, VZ.row (by first | rfl | simp), trivial⟩ (code_writer_put_ok γ _ (by simp -implicitDefEqProofs only [go_sem, seval, hi1, f9, f10, f11, f12, f13, f14, hsA, hsB, hsC]; try rfl) (by simp -implicitDefEqProofs only [go_sem, seval, hi1, f9, f10, f11, f12, f13, f14, hsA, hsB, hsC]; try rfl) f18)) rfl rfl ?_
          simp -implicitDefEqProofs only [go_sem, seval, hi1, f9, f10, f11, f12, f13, f14, hsA, hsB, hsC]
          refine X_reg (lx_ok γ) ?_
          obtain rfl := sI h
          simp -implicitDefEqProofs only [go_sem, seval, hi1, f9, f10, f11, f12, f13, f14, hsA, hsB, hsC]
          refine kR_in rfl ?_ ⟨rfl, rfl⟩
          exact To.mv2 [(0, 0), (3, 0)] (BaseM.set hob (by exact ⟨VM.rowL (j := 3) (t := 1) rfl (by first | rfl | simp | simp_all | omega), vS, trivial⟩)) (by simp) (by decide) (by simp only [go_sem]; exact ⟨VM.self (by simp [*]), VM.refA (j := 0) (t := 0) rfl, vS, VM.eqv (by rw [hw1]) (by simp)⟩) ⟨⟨_, rfl, OM.box _ _ ⟨vS, vS, vS, vS, vS, vS, vS, trivial⟩⟩, ⟨_, rfl, OM.row' (by first | rfl | simp_all)⟩, trivial⟩
        ·rw [if_pos f13] at h
         have f19 : code_field a1 x8 = some 3 := by simp only [code_field, hi1, f9, f10, f11, f12, f13, if_true, if_false, Bool.false_eq_true]
         simp -implicitDefEqProofs only [go_sem, seval, hi1, f9, f10, f11, f12, f13, hsA, hsB, hsC]
         refine callV_eq (code_field_ok γ _ (by simp -implicitDefEqProofs only [go_sem, seval, hi1, f9, f10, hsA, hsB, hsC]; try rfl) f19) rfl rfl ?_
         obtain ⟨x11, f20, h⟩ := bindE h
         simp -implicitDefEqProofs only [go_sem, seval, hi1, f9, f10, f11, f12, f13, hsA, hsB, hsC]
         refine callV_eq (Valid.frzB (b := (List.set ob o0 (some (O.box [V.row (ob.length + 1) 0 0 (List.length x4), vbool x5])))) (B := ob.length) (by simp) (l := [some (O.box [vint .i64 a1.Op, vint .i64 a1.D, vint .i64 a1.A, vint .i64 a1.B, vint .i64 a1.N, vint .i64 a1.M, V.tr (.sl 1 false (List.map (eI .i64) a1.Args))]), some (O.row 1 0 (List.map (eI .u8) x4)), some (O.row 1 0 (List.map (eI .i64) [a1.B]))]) (l' := [some (O.box [vint .i64 a1.Op, vint .i64 a1.D, vint .i64 a1.A, vint .i64 a1.B, vint .i64 a1.N, vint .i64 a1.M, V.tr (.sl 1 false (List.map (eI .i64) a1.Args))]), some (O.row 1 0 (List.map (eI .u8) x4)), none]) (args := [V.ref o0 0, V.row (ob.length + 2) 0 0 1]) (args' := [V.ref o0 0, V.tr (.sl 1 false (List.map (eI .i64) [a1.B]))]) 2 rfl rfl ⟨VZ.refl, VZ.row (by first | rfl | simp), trivial⟩ (code_writer_put_ok γ _ (by simp -implicitDefEqProofs only [go_sem, seval, hi1, f9, f10, f11, f12, f13, hsA, hsB, hsC]; try rfl) (by simp -implicitDefEqProofs only [go_sem, seval, hi1, f9, f10, f11, f12, f13, hsA, hsB, hsC]; try rfl) f20)) rfl rfl ?_
         simp -implicitDefEqProofs only [go_sem, seval, hi1, f9, f10, f11, f12, f13, hsA, hsB, hsC]
         refine X_reg (lx_ok γ) ?_
         obtain rfl := sI h
         simp -implicitDefEqProofs only [go_sem, seval, hi1, f9, f10, f11, f12, f13, hsA, hsB, hsC]
         refine kR_in rfl ?_ ⟨rfl, rfl⟩
         exact To.mv2 [(0, 0), (3, 0)] (BaseM.set hob (by exact ⟨VM.rowL (j := 3) (t := 1) rfl (by first | rfl | simp | simp_all | omega), vS, trivial⟩)) (by simp) (by decide) (by simp only [go_sem]; exact ⟨VM.self (by simp [*]), VM.refA (j := 0) (t := 0) rfl, vS, VM.eqv (by rw [hw1]) (by simp)⟩) ⟨⟨_, rfl, OM.box _ _ ⟨vS, vS, vS, vS, vS, vS, vS, trivial⟩⟩, ⟨_, rfl, OM.row' (by first | rfl | simp_all)⟩, trivial⟩
       ·rw [if_pos f12] at h
        have f21 : code_field a1 x8 = some 2 := by simp only [code_field, hi1, f9, f10, f11, f12, if_true, if_false, Bool.false_eq_true]
        simp -implicitDefEqProofs only [go_sem, seval, hi1, f9, f10, f11, f12, hsA, hsB, hsC]
        refine callV_eq (code_field_ok γ _ (by simp -implicitDefEqProofs only [go_sem, seval, hi1, f9, f10, hsA, hsB, hsC]; try rfl) f21) rfl rfl ?_
        obtain ⟨x12, f22, h⟩ := bindE h
        simp -implicitDefEqProofs only [go_sem, seval, hi1, f9, f10, f11, f12, hsA, hsB, hsC]
        refine callV_eq (Valid.frzB (b := (List.set ob o0 (some (O.box [V.row (ob.length + 1) 0 0 (List.length x4), vbool x5])))) (B := ob.length) (by simp) (l := [some (O.box [vint .i64 a1.Op, vint .i64 a1.D, vint .i64 a1.A, vint .i64 a1.B, vint .i64 a1.N, vint .i64 a1.M, V.tr (.sl 1 false (List.map (eI .i64) a1.Args))]), some (O.row 1 0 (List.map (eI .u8) x4)), some (O.row 1 0 (List.map (eI .i64) [a1.A]))]) (l' := [some (O.box [vint .i64 a1.Op, vint .i64 a1.D, vint .i64 a1.A, vint .i64 a1.B, vint .i64 a1.N, vint .i64 a1.M, V.tr (.sl 1 false (List.map (eI .i64) a1.Args))]), some (O.row 1 0 (List.map (eI .u8) x4)), none]) (args := [V.ref o0 0, V.row (ob.length + 2) 0 0 1]) (args' := [V.ref o0 0, V.tr (.sl 1 false (List.map (eI .i64) [a1.A]))]) 2 rfl rfl ⟨VZ.refl, VZ.row (by first | rfl | simp), trivial⟩ (code_writer_put_ok γ _ (by simp -implicitDefEqProofs only [go_sem, seval, hi1, f9, f10, f11, f12, hsA, hsB, hsC]; try rfl) (by simp -implicitDefEqProofs only [go_sem, seval, hi1, f9, f10, f11, f12, hsA, hsB, hsC]; try rfl) f22)) rfl rfl ?_
        simp -implicitDefEqProofs only [go_sem, seval, hi1, f9, f10, f11, f12, hsA, hsB, hsC]
        refine X_reg (lx_ok γ) ?_
        obtain rfl := sI h
        simp -implicitDefEqProofs only [go_sem, seval, hi1, f9, f10, f11, f12, hsA, hsB, hsC]
        refine kR_in rfl ?_ ⟨rfl, rfl⟩
        exact To.mv2 [(0, 0), (3, 0)] (BaseM.set hob (by exact ⟨VM.rowL (j := 3) (t := 1) rfl (by first | rfl | simp | simp_all | omega), vS, trivial⟩)) (by simp) (by decide) (by simp only [go_sem]; exact ⟨VM.self (by simp [*]), VM.refA (j := 0) (t := 0) rfl, vS, VM.eqv (by rw [hw1]) (by simp)⟩) ⟨⟨_, rfl, OM.box _ _ ⟨vS, vS, vS, vS, vS, vS, vS, trivial⟩⟩, ⟨_, rfl, OM.row' (by first | rfl | simp_all)⟩, trivial⟩
      ·rw [if_pos f11] at h
       have f23 : code_field a1 x8 = some 1 := by simp only [code_field, hi1, f9, f10, f11, if_true, if_false, Bool.false_eq_true]
       simp -implicitDefEqProofs only [go_sem, seval, hi1, f9, f10, f11, hsA, hsB, hsC]
       refine callV_eq (code_field_ok γ _ (by simp -implicitDefEqProofs only [go_sem, seval, hi1, f9, f10, hsA, hsB, hsC]; try rfl) f23) rfl rfl ?_
       obtain ⟨x13, f24, h⟩ := bindE h
       simp -implicitDefEqProofs only [go_sem, seval, hi1, f9, f10, f11, hsA, hsB, hsC]
       refine callV_eq (Valid.frzB (b := (List.set ob o0 (some (O.box [V.row (ob.length + 1) 0 0 (List.length x4), vbool x5])))) (B := ob.length) (by simp) (l := [some (O.box [vint .i64 a1.Op, vint .i64 a1.D, vint .i64 a1.A, vint .i64 a1.B, vint .i64 a1.N, vint .i64 a1.M, V.tr (.sl 1 false (List.map (eI .i64) a1.Args))]), some (O.row 1 0 (List.map (eI .u8) x4)), some (O.row 1 0 (List.map (eI .i64) [a1.D]))]) (l' := [some (O.box [vint .i64 a1.Op, vint .i64 a1.D, vint .i64 a1.A, vint .i64 a1.B, vint .i64 a1.N, vint .i64 a1.M, V.tr (.sl 1 false (List.map (eI .i64) a1.Args))]), some (O.row 1 0 (List.map (eI .u8) x4)), none]) (args := [V.ref o0 0, V.row (ob.length + 2) 0 0 1]) (args' := [V.ref o0 0, V.tr (.sl 1 false (List.map (eI .i64) [a1.D]))]) 2 rfl rfl ⟨VZ.refl, VZ.row (by first | rfl | simp), trivial⟩ (code_writer_put_ok γ _ (by simp -implicitDefEqProofs only [go_sem, seval, hi1, f9, f10, f11, hsA, hsB, hsC]; try rfl) (by simp -implicitDefEqProofs only [go_sem, seval, hi1, f9, f10, f11, hsA, hsB, hsC]; try rfl) f24)) rfl rfl ?_
       simp -implicitDefEqProofs only [go_sem, seval, hi1, f9, f10, f11, hsA, hsB, hsC]
       refine X_reg (lx_ok γ) ?_
       obtain rfl := sI h
       simp -implicitDefEqProofs only [go_sem, seval, hi1, f9, f10, f11, hsA, hsB, hsC]
       refine kR_in rfl ?_ ⟨rfl, rfl⟩
       exact To.mv2 [(0, 0), (3, 0)] (BaseM.set hob (by exact ⟨VM.rowL (j := 3) (t := 1) rfl (by first | rfl | simp | simp_all | omega), vS, trivial⟩)) (by simp) (by decide) (by simp only [go_sem]; exact ⟨VM.self (by simp [*]), VM.refA (j := 0) (t := 0) rfl, vS, VM.eqv (by rw [hw1]) (by simp)⟩) ⟨⟨_, rfl, OM.box _ _ ⟨vS, vS, vS, vS, vS, vS, vS, trivial⟩⟩, ⟨_, rfl, OM.row' (by first | rfl | simp_all)⟩, trivial⟩
     ·rw [if_pos f10] at h
      refine X_cond (lx_ok γ) ?_
      simp -implicitDefEqProofs only [go_sem, seval, hi1, f9, f10, hsA, hsB, hsC]
      refine X_sr (lx_ok γ) ?_
      obtain ⟨x14, f25, h⟩ := bindE h
      simp -implicitDefEqProofs only [go_sem, seval, hi1, f9, f10, hsA, hsB, hsC]
      refine callV_eq (Valid.frzB (b := (List.set ob o0 (some (O.box [V.row (ob.length + 1) 0 0 (List.length x4), vbool x5])))) (B := ob.length) (by simp) (l := [some (O.box [vint .i64 a1.Op, vint .i64 a1.D, vint .i64 a1.A, vint .i64 a1.B, vint .i64 a1.N, vint .i64 a1.M, V.tr (.sl 1 false (List.map (eI .i64) a1.Args))]), some (O.row 1 0 (List.map (eI .u8) x4)), some (O.row 1 0 (List.map (eI .i64) [(List.length a1.Args : Int)]))]) (l' := [some (O.box [vint .i64 a1.Op, vint .i64 a1.D, vint .i64 a1.A, vint .i64 a1.B, vint .i64 a1.N, vint .i64 a1.M, V.tr (.sl 1 false (List.map (eI .i64) a1.Args))]), some (O.row 1 0 (List.map (eI .u8) x4)), none]) (args := [V.ref o0 0, V.row (ob.length + 2) 0 0 1]) (args' := [V.ref o0 0, V.tr (.sl 1 false (List.map (eI .i64) [(List.length a1.Args : Int)]))]) 2 rfl rfl ⟨VZ.refl, VZ.row (by first | rfl | simp), trivial⟩ (code_writer_put_ok γ _ (by simp -implicitDefEqProofs only [go_sem, seval, hi1, f9, f10, hsA, hsB, hsC]; try rfl) (by simp -implicitDefEqProofs only [go_sem, seval, hi1, f9, f10, hsA, hsB, hsC]; try rfl) f25)) rfl rfl ?_
      simp -implicitDefEqProofs only [go_sem, seval, hi1, f9, f10, hsA, hsB, hsC]
      refine X_reg (lx_ok γ) ?_
      obtain ⟨x15, f26, h⟩ := bindE h
      simp -implicitDefEqProofs only [go_sem, seval, hi1, f9, f10, hsA, hsB, hsC]
      refine callV_eq (code_writer_put_ok γ _ (by simp -implicitDefEqProofs only [go_sem, seval, hi1, f9, f10, hsA, hsB, hsC]; try rfl) (by simp -implicitDefEqProofs only [go_sem, seval, hi1, f9, f10, hsA, hsB, hsC]; try rfl) f26) rfl rfl ?_
      simp -implicitDefEqProofs only [go_sem, seval, hi1, f9, f10, hsA, hsB, hsC]
      refine X_reg (lx_ok γ) ?_
      obtain rfl := sI h
      simp -implicitDefEqProofs only [go_sem, seval, hi1, f9, f10, hsA, hsB, hsC]
      refine kR_in rfl ?_ ⟨rfl, rfl⟩
      exact To.mv2 [(0, 0), (4, 0)] (BaseM.set hob (by exact ⟨VM.rowL (j := 4) (t := 1) rfl (by first | rfl | simp | simp_all | omega), vS, trivial⟩)) (by simp) (by decide) (by simp only [go_sem]; exact ⟨VM.self (by simp [*]), VM.refA (j := 0) (t := 0) rfl, vS, VM.eqv (by rw [hw1]) (by simp)⟩) ⟨⟨_, rfl, OM.box _ _ ⟨vS, vS, vS, vS, vS, vS, vS, trivial⟩⟩, ⟨_, rfl, OM.row' (by first | rfl | simp_all)⟩, trivial⟩
    ·rw [if_pos f9] at h
     refine X_cond (lx_ok γ) ?_
     simp -implicitDefEqProofs only [go_sem, seval, hi1, f9, hsA, hsB, hsC]
     refine X_drawn (lx_ok γ) [[], [], [1], [1, 2], [1, 2, 3], [], [5], [1, 2, 3, 4, 5, 6], [0, 1, 2, 3, 4, 5, 6, 7], [0, 1, 2, 3, 4, 5, 6, 7, 8], [0, 1, 2, 3, 4, 5, 6, 7, 8, 9]] (fun i => match i with | 7 => true | 10 => true | _ => false) (by kernel_rfl) ?_
     obtain ⟨x16, f27, h⟩ := bindE h
     try simp -implicitDefEqProofs only [go_sem, seval, hi1, f9, hsA, hsB, hsC, cmpr, List.getD_cons_zero, List.getD_cons_succ, List.contains_cons, List.contains_nil, Nat.reduceBEq, Bool.false_or, Bool.or_false, Bool.true_or, Bool.or_true, beq_self_eq_true]
     refine callV_eq (Valid.frzB (b := (List.set ob o0 (some (O.box [V.row (ob.length + 1) 0 0 (List.length x4), vbool x5])))) (B := ob.length) (by simp) (l := [some (O.box [vint .i64 a1.Op, vint .i64 a1.D, vint .i64 a1.A, vint .i64 a1.B, vint .i64 a1.N, vint .i64 a1.M, V.tr (.sl 1 false (List.map (eI .i64) a1.Args))]), some (O.row 1 0 (List.map (eI .u8) x4))]) (l' := [some (O.box [vint .i64 a1.Op, vint .i64 a1.D, vint .i64 a1.A, vint .i64 a1.B, vint .i64 a1.N, vint .i64 a1.M, V.tr (.sl 1 false (List.map (eI .i64) a1.Args))]), none]) (args := [V.row (ob.length + 1) 0 0 (List.length x4), vint .i64 a1.N]) (args' := [V.tr (.sl 1 false (List.map (eI .u8) x4)), vint .i64 a1.N]) 1 rfl rfl ⟨VZ.row (by first | rfl | simp), VZ.refl, trivial⟩ (varint_PutSigned_ok γ _  f27)) rfl rfl ?_
     try simp -implicitDefEqProofs only [go_sem, seval, hi1, f9, hsA, hsB, hsC, cmpr, List.getD_cons_zero, List.getD_cons_succ, List.contains_cons, List.contains_nil, Nat.reduceBEq, Bool.false_or, Bool.or_false, Bool.true_or, Bool.or_true, beq_self_eq_true]
     refine X_reg (lx_ok γ) ?_
     obtain rfl := sI h
     simp -implicitDefEqProofs only [go_sem, seval, hi1, f9, hsA, hsB, hsC]
     refine kR_in rfl ?_ ⟨rfl, rfl⟩
     exact To.mv2 [(0, 0), (2, 0)] (BaseM.set hob (by exact ⟨VM.rowL (j := 2) (t := 1) rfl (by first | rfl | simp | simp_all | omega), vS, trivial⟩)) (by simp) (by decide) (by simp only [go_sem]; exact ⟨VM.self (by simp [*]), VM.refA (j := 0) (t := 0) rfl, vS, VM.eqv (by rw [hw1]) (by simp)⟩) ⟨⟨_, rfl, OM.box _ _ ⟨vS, vS, vS, vS, vS, vS, vS, trivial⟩⟩, ⟨_, rfl, OM.row' (by first | rfl | simp_all)⟩, trivial⟩
   ·rintro i1 ⟨x4, x5⟩ hi1 hn1 as1 ob1 ⟨rfl, rfl⟩
    refine X_sr (lx_ok γ) ?_
    simp -implicitDefEqProofs only [go_sem, seval, hi1, hsA, hsB, hsC]
    refine X_seq ?_
    refine X_cond (lx_ok γ) ?_
    simp -implicitDefEqProofs only [go_sem, seval, hi1, hsA, hsB, hsC]
    have h := hk1 _ (.inl hn1)
    refine X_exit ?_
    try simp -implicitDefEqProofs only [go_sem, ↓reduceIte, Nat.reduceEqDiff, reduceCtorEq]
    refine kJ_in ?_ ⟨x4, x5, h, rfl, rfl⟩
    exact To.mv2 [(1, 0)] (BaseM.set hob (by exact ⟨VM.rowL (j := 1) (t := 0) rfl (by first | rfl | simp | simp_all | omega), vS, trivial⟩)) (by simp) (by decide) trivial ⟨⟨_, rfl, OM.row' (by first | rfl | simp_all)⟩, trivial⟩
 ·refine X_reg (lx_ok γ) ?_
  cases f28 : a0.bad
  ·rw [if_neg (nF f28)] at h
   obtain ⟨x17, f29, h⟩ := bindE h
   simp -implicitDefEqProofs only [go_sem, seval, f28, hsA, hsB, hsC]
   refine callV_eq (code_Parts_ok γ _  f29) rfl rfl ?_
   cases f30 : (ByteArray.toList x17 == ByteArray.toList ({ data := #[] } : ByteArray))
   ·rw [if_neg (nF f30)] at h
    obtain ⟨x18, f31, h⟩ := bindE h
    simp -implicitDefEqProofs only [go_sem, seval, f28, f30, hsA, hsB, hsC]
    refine callV_eq (code_bare_ok γ _  f31) rfl rfl ?_
    simp -implicitDefEqProofs only [go_sem, seval, f28, f30, hsA, hsB, hsC]
    refine kJ_in ?_ ⟨(!x18), h, rfl, rfl⟩
    exact To.mv2 [(1, 0), (0, 0)] (BaseM.set hob (by exact ⟨VM.rowL (j := 0) (t := 1) rfl (by first | rfl | simp | simp_all | omega), vS, trivial⟩)) (by simp) (by decide) (by simp only [go_sem]; exact ⟨VM.self (by simp [*]), VM.refA (j := 1) (t := 0) rfl⟩) ⟨⟨_, rfl, OM.box _ _ ⟨vS, vS, vS, vS, vS, vS, vS, trivial⟩⟩, ⟨_, rfl, OM.row' (by first | rfl | simp_all)⟩, trivial⟩
   ·rw [if_pos f30] at h
    simp -implicitDefEqProofs only [go_sem, seval, f28, f30, hsA, hsB, hsC]
    refine kJ_in ?_ ⟨true, h, rfl, rfl⟩
    exact To.mv2 [(1, 0), (0, 0)] (BaseM.set hob (by exact ⟨VM.rowL (j := 0) (t := 1) rfl (by first | rfl | simp | simp_all | omega), vS, trivial⟩)) (by simp) (by decide) (by simp only [go_sem]; exact ⟨VM.self (by simp [*]), VM.refA (j := 1) (t := 0) rfl⟩) ⟨⟨_, rfl, OM.box _ _ ⟨vS, vS, vS, vS, vS, vS, vS, trivial⟩⟩, ⟨_, rfl, OM.row' (by first | rfl | simp_all)⟩, trivial⟩
  ·rw [if_pos f28] at h
   simp -implicitDefEqProofs only [go_sem, seval, f28, hsA, hsB, hsC]
   refine kJ_in ?_ ⟨true, h, rfl, rfl⟩
   exact To.mv2 [(1, 0), (0, 0)] (BaseM.set hob (by exact ⟨VM.rowL (j := 0) (t := 1) rfl (by first | rfl | simp | simp_all | omega), vS, trivial⟩)) (by simp) (by decide) (by simp only [go_sem]; exact ⟨VM.self (by simp [*]), VM.refA (j := 1) (t := 0) rfl⟩) ⟨⟨_, rfl, OM.box _ _ ⟨vS, vS, vS, vS, vS, vS, vS, trivial⟩⟩, ⟨_, rfl, OM.row' (by first | rfl | simp_all)⟩, trivial⟩
end Go.Pf
end
section
set_option maxRecDepth 100000
namespace Go.Pf
open Go Go.Ab Go.Pp Go.Proofs Go.Proofs.S04
attribute [local go_sem] Lxτ Lxγ gam0 Int.toNat_natCast List.append_eq List.cons_append List.nil_append tau3 tau4 tau5 tau28 tau29 tau31 tau35 tau42 tau44 tau45 tau69 tau71 eI eB eS e_Ins e_Block e_Func e_Prog e_code_writer e_code_reader e_Edge
set_option maxHeartbeats 1000000 in
theorem code_writer_fn_ok (γ : GT) (ob : OT) {o0 r0 e0 : Nat} {a0 : code_writer} {a1 : Func} (hx0 : getO ob o0 = some (O.box [V.row r0 e0 0 (List.length a0.b), vbool a0.bad])) (hr0 : getO ob r0 = some (O.row 1 e0 (List.map (eI .u8) a0.b))) {r : code_writer} (h : code_writer_fn a0 a1 = some r) :
  Valid (Lx γ) 61 [V.ref o0 0, V.agg [V.tr (.sl 1 false (List.map (eI .i64) a1.Kinds)), V.tr (.sl 1 false (List.map (eI .i64) a1.Base)), vint .i64 a1.Params, vint .i64 a1.Result, V.tr (.sl 1 false (List.map e_Block a1.Blocks))]] ob (V.tup []) ((List.set (List.set ob r0 none) o0 (some (O.box [V.row ob.length 0 0 (List.length r.b), vbool r.bad]))) ++ [some (O.row 1 0 (List.map (eI .u8) r.b))]) := by
 refine valid_X (lx_ok γ) (fn := Tryd.f61) (rs := []) Tryd.func61 (by kernel_rfl) rfl rfl Tryd.ntmps61 rfl (by simp) fun hb hob => ?_
 have hoa0 := getO_lt hx0
 refine X.to (To.take (as' := [(0, V.ref o0 0), (1, V.agg [V.tr (.sl 1 false (List.map (eI .i64) a1.Kinds)), V.tr (.sl 1 false (List.map (eI .i64) a1.Base)), vint .i64 a1.Params, vint .i64 a1.Result, V.tr (.sl 1 false (List.map e_Block a1.Blocks))])]) hr0 (by simp only [go_sem]; exact ⟨VT.refl, VT.refl⟩) (TK.two (cs' := [V.row ob.length 0 0 (List.length a0.b), vbool a0.bad]) hr0 hx0 ⟨VT.row, VT.refl, trivial⟩)) ?_
 rw [← length_setO (ob := ob) (o := r0) (x := none)] at hoa0
 have hob2 : TBd (List.set ob r0 none).length (List.set ob r0 none) := by rw [length_setO]; exact hob.del
 rw [← length_setO (ob := ob) (o := r0) (x := none)]
 clear hb hob
 generalize List.set ob r0 none = ob at hob2 hoa0 ⊢
 have hob := hob2
 have hsA : ∀ (x : Option O) (l : OT), getO (List.set ob o0 x ++ l) o0 = x := fun _ _ => getO_selfA hoa0
 have hsB : ∀ (x : Option O), getO (List.set ob o0 x) o0 = x := fun _ => getO_self hoa0
 have hsC : ∀ (x y : Option O) (l : OT), List.set (List.set ob o0 x ++ l) o0 y = List.set ob o0 y ++ l := fun _ _ _ => set_selfA hoa0
 rw [code_writer_fn] at h
 refine X_sr (lx_ok γ) ?_
 simp -implicitDefEqProofs only [go_sem, seval, hsA, hsB, hsC]
 refine X_seq ?_
 refine X_sr (lx_ok γ) ?_
 simp -implicitDefEqProofs only [go_sem, seval, hsA, hsB, hsC]
 cases f1 : ((List.length a1.Base : Int) != (List.length a1.Kinds : Int))
 ·rw [if_neg (nF f1)] at h
  refine X_cond (lx_ok γ) ?_
  simp -implicitDefEqProofs only [go_sem, seval, f1, hsA, hsB, hsC]
  refine X_skip ?_
  try simp -implicitDefEqProofs only [go_sem]
  refine X_sr (lx_ok γ) ?_
  obtain ⟨x1, f2, h⟩ := bindE h
  simp -implicitDefEqProofs only [go_sem, seval, f1, hsA, hsB, hsC]
  refine callV_eq (Valid.frzB (b := (List.set ob o0 (some (O.box [V.row ob.length 0 0 (List.length a0.b), vbool a0.bad])))) (B := ob.length) (by simp) (l := [some (O.row 1 0 (List.map (eI .u8) a0.b)), some (O.box [V.tr (.sl 1 false (List.map (eI .i64) a1.Kinds)), V.tr (.sl 1 false (List.map (eI .i64) a1.Base)), vint .i64 a1.Params, vint .i64 a1.Result, V.tr (.sl 1 false (List.map e_Block a1.Blocks))]), some (O.row 1 0 (List.map (eI .i64) [(List.length a1.Kinds : Int)]))]) (l' := [some (O.row 1 0 (List.map (eI .u8) a0.b)), some (O.box [V.tr (.sl 1 false (List.map (eI .i64) a1.Kinds)), V.tr (.sl 1 false (List.map (eI .i64) a1.Base)), vint .i64 a1.Params, vint .i64 a1.Result, V.tr (.sl 1 false (List.map e_Block a1.Blocks))]), none]) (args := [V.ref o0 0, V.row (ob.length + 2) 0 0 1]) (args' := [V.ref o0 0, V.tr (.sl 1 false (List.map (eI .i64) [(List.length a1.Kinds : Int)]))]) 2 rfl rfl ⟨VZ.refl, VZ.row (by first | rfl | simp), trivial⟩ (code_writer_put_ok γ _ (by simp -implicitDefEqProofs only [go_sem, seval, f1, hsA, hsB, hsC]; try rfl) (by simp -implicitDefEqProofs only [go_sem, seval, f1, hsA, hsB, hsC]; try rfl) f2)) rfl rfl ?_
  simp -implicitDefEqProofs only [go_sem, seval, f1, hsA, hsB, hsC]
  refine X_seq ?_
  refine X_sr (lx_ok γ) ?_
  simp -implicitDefEqProofs only [go_sem, seval, f1, hsA, hsB, hsC]
  refine X_jq (J := fun as1 ob1 => ∃ (x2 : List Int) (x3 : Bool), code_writer_fn.k1 a1 x2 x3 = some r ∧ [(0, V.ref o0 0), (3, V.ref ob.length 0)] = as1 ∧ (List.set ob o0 (some (O.box [V.row (ob.length + 1) 0 0 (List.length x2), vbool x3]))) ++ [some (O.box [V.tr (.sl 1 false (List.map (eI .i64) a1.Kinds)), V.tr (.sl 1 false (List.map (eI .i64) a1.Base)), vint .i64 a1.Params, vint .i64 a1.Result, V.tr (.sl 1 false (List.map e_Block a1.Blocks))]), some (O.row 1 0 (List.map (eI .u8) x2))] = ob1) ?_ ?_
  ·rintro as1 ob1 ⟨x2, x3, h, rfl, rfl⟩
   rw [code_writer_fn.k1] at h
   simp -implicitDefEqProofs only [go_sem, seval, f1, hsA, hsB, hsC]
   refine X_sr (lx_ok γ) ?_
   obtain ⟨x5, f3, h⟩ := bindE h
   simp -implicitDefEqProofs only [go_sem, seval, f1, hsA, hsB, hsC]
   refine callV_eq (Valid.frzB (b := (List.set ob o0 (some (O.box [V.row (ob.length + 1) 0 0 (List.length x2), vbool x3])))) (B := ob.length) (by simp) (l := [some (O.box [V.tr (.sl 1 false (List.map (eI .i64) a1.Kinds)), V.tr (.sl 1 false (List.map (eI .i64) a1.Base)), vint .i64 a1.Params, vint .i64 a1.Result, V.tr (.sl 1 false (List.map e_Block a1.Blocks))]), some (O.row 1 0 (List.map (eI .u8) x2)), some (O.row 1 0 (List.map (eI .i64) [a1.Params, a1.Result, (List.length a1.Blocks : Int)]))]) (l' := [some (O.box [V.tr (.sl 1 false (List.map (eI .i64) a1.Kinds)), V.tr (.sl 1 false (List.map (eI .i64) a1.Base)), vint .i64 a1.Params, vint .i64 a1.Result, V.tr (.sl 1 false (List.map e_Block a1.Blocks))]), some (O.row 1 0 (List.map (eI .u8) x2)), none]) (args := [V.ref o0 0, V.row (ob.length + 2) 0 0 3]) (args' := [V.ref o0 0, V.tr (.sl 1 false (List.map (eI .i64) [a1.Params, a1.Result, (List.length a1.Blocks : Int)]))]) 2 rfl rfl ⟨VZ.refl, VZ.row (by first | rfl | simp), trivial⟩ (code_writer_put_ok γ _ (by simp -implicitDefEqProofs only [go_sem, seval, f1, hsA, hsB, hsC]; try rfl) (by simp -implicitDefEqProofs only [go_sem, seval, f1, hsA, hsB, hsC]; try rfl) f3)) rfl rfl ?_
   simp -implicitDefEqProofs only [go_sem, seval, f1, hsA, hsB, hsC]
   refine X_sr (lx_ok γ) ?_
   simp -implicitDefEqProofs only [go_sem, seval, f1, hsA, hsB, hsC]
   refine X_jq (J := fun as1 ob1 => ∃ (x6 : List Int) (x7 : Bool), code_writer_fn.k2 x6 x7 = some r ∧ [] = as1 ∧ (List.set ob o0 (some (O.box [V.row ob.length 0 0 (List.length x6), vbool x7]))) ++ [some (O.row 1 0 (List.map (eI .u8) x6))] = ob1) ?_ ?_
   ·rintro as1 ob1 ⟨x6, x7, h, rfl, rfl⟩
    rw [code_writer_fn.k2] at h
    obtain rfl := sI h
    simp -implicitDefEqProofs only [go_sem, seval, f1, hsA, hsB, hsC]
    exact Rt.mv2 [(0, 0)] (BaseM.set hob (by exact ⟨VM.rowL (j := 0) (t := 0) rfl (by first | rfl | simp | simp_all | omega), vS, trivial⟩)) (by simp) (by decide) (VM.tup trivial) ⟨⟨_, rfl, OM.row' (by first | rfl | simp_all)⟩, trivial⟩
   ·refine X_block ?_
    obtain ⟨lr2, hl2, hk2, hr2⟩ := aft2 h
    refine X_forN hl2 (fun (i2 : Nat) (s : (List Int) × Bool) as1 ob1 => [(0, V.ref o0 0), (75, V.tr (.sl 1 false (List.map e_Block a1.Blocks))), (76, vint .i64 (List.length a1.Blocks : Int)), (77, vint .i64 (i2 : Int))] = as1 ∧ (List.set ob o0 (some (O.box [V.row ob.length 0 0 (List.length s.1), vbool s.2]))) ++ [some (O.row 1 0 (List.map (eI .u8) s.1))] = ob1) ⟨_, _, ?_, rfl, rfl⟩ ?_ ?_
    ·exact To.mv2 [(3, 0)] (BaseM.set hob (by exact ⟨VM.rowL (j := 3) (t := 0) rfl (by first | rfl | simp | simp_all | omega), vS, trivial⟩)) (by simp) (by decide) (by simp only [go_sem]; exact ⟨VM.self (by simp [*]), vS, vS, VM.eqv (by simp) (by simp)⟩) ⟨⟨_, rfl, OM.row' (by first | rfl | simp_all)⟩, trivial⟩
    ·rintro i2 ⟨x6, x7⟩ o2 hi2 hw2 h ho2 as1 ob1 ⟨rfl, rfl⟩
     rw [code_writer_fn.b2] at h
     refine X_sr (lx_ok γ) ?_
     simp -implicitDefEqProofs only [go_sem, seval, f1, hi2, hsA, hsB, hsC]
     refine X_seq ?_
     refine X_cond (lx_ok γ) ?_
     simp -implicitDefEqProofs only [go_sem, seval, f1, hi2, hsA, hsB, hsC]
     refine X_skip ?_
     try simp -implicitDefEqProofs only [go_sem]
     refine X_seq ?_
     refine X_block ?_
     refine X_sr (lx_ok γ) ?_
     obtain ⟨x9, f4, h⟩ := bindE h
     obtain ⟨f5, f6⟩ := ixL_nat f4
     have f7 : (0 : Int) ≤ (i2 : Int) := Int.natCast_nonneg _
     simp -implicitDefEqProofs only [go_sem, seval, f1, hi2, hsA, hsB, hsC, f5, f6, f7]
     refine X_sr (lx_ok γ) ?_
     obtain ⟨x10, f8, h⟩ := bindE h
     simp -implicitDefEqProofs only [go_sem, seval, f1, hi2, hsA, hsB, hsC]
     refine callV_eq (Valid.frzB (b := (List.set ob o0 (some (O.box [V.row ob.length 0 0 (List.length x6), vbool x7])))) (B := ob.length) (by simp) (l := [some (O.row 1 0 (List.map (eI .u8) x6)), some (O.box [V.tr (.sl 7 false (List.map e_Ins x9.Code))]), some (O.row 1 0 (List.map (eI .i64) [(List.length x9.Code : Int)]))]) (l' := [some (O.row 1 0 (List.map (eI .u8) x6)), some (O.box [V.tr (.sl 7 false (List.map e_Ins x9.Code))]), none]) (args := [V.ref o0 0, V.row (ob.length + 2) 0 0 1]) (args' := [V.ref o0 0, V.tr (.sl 1 false (List.map (eI .i64) [(List.length x9.Code : Int)]))]) 2 rfl rfl ⟨VZ.refl, VZ.row (by first | rfl | simp), trivial⟩ (code_writer_put_ok γ _ (by simp -implicitDefEqProofs only [go_sem, seval, f1, hi2, hsA, hsB, hsC]; try rfl) (by simp -implicitDefEqProofs only [go_sem, seval, f1, hi2, hsA, hsB, hsC]; try rfl) f8)) rfl rfl ?_
     simp -implicitDefEqProofs only [go_sem, seval, f1, hi2, hsA, hsB, hsC]
     refine X_sr (lx_ok γ) ?_
     simp -implicitDefEqProofs only [go_sem, seval, f1, hi2, hsA, hsB, hsC]
     refine X_jq (J := fun as1 ob1 => ∃ (x11 : List Int) (x12 : Bool), code_writer_fn.k3 x11 x12 = some o2 ∧ [(0, V.ref o0 0), (75, V.tr (.sl 1 false (List.map e_Block a1.Blocks))), (76, vint .i64 (List.length a1.Blocks : Int)), (77, vint .i64 (i2 : Int))] = as1 ∧ (List.set ob o0 (some (O.box [V.row ob.length 0 0 (List.length x11), vbool x12]))) ++ [some (O.row 1 0 (List.map (eI .u8) x11))] = ob1) ?_ ?_
     ·rintro as1 ob1 ⟨x11, x12, h, rfl, rfl⟩
      rw [code_writer_fn.k3] at h
      simp -implicitDefEqProofs only [go_sem, seval, f1, hi2, hsA, hsB, hsC]
      refine X_reg (lx_ok γ) ?_
      obtain rfl := sI h
      simp -implicitDefEqProofs only [go_sem, seval, f1, hi2, hsA, hsB, hsC]
      refine kR_in rfl ?_ ⟨rfl, rfl⟩
      exact To.mv2 [(0, 0)] (BaseM.set hob (by exact ⟨VM.rowL (j := 0) (t := 0) rfl (by first | rfl | simp | simp_all | omega), vS, trivial⟩)) (by simp) (by decide) (by simp only [go_sem]; exact ⟨VM.self (by simp [*]), vS, vS, VM.eqv (by rw [hw2]) (by simp)⟩) ⟨⟨_, rfl, OM.row' (by first | rfl | simp_all)⟩, trivial⟩
     ·refine X_block ?_
      obtain ⟨lr3, hl3, hk3, hr3⟩ := aft2 h
      refine X_forN hl3 (fun (i3 : Nat) (s : (List Int) × Bool) as1 ob1 => [(0, V.ref o0 0), (75, V.tr (.sl 1 false (List.map e_Block a1.Blocks))), (76, vint .i64 (List.length a1.Blocks : Int)), (77, vint .i64 (i2 : Int)), (88, V.tr (.sl 7 false (List.map e_Ins x9.Code))), (89, vint .i64 (List.length x9.Code : Int)), (90, vint .i64 (i3 : Int))] = as1 ∧ (List.set ob o0 (some (O.box [V.row ob.length 0 0 (List.length s.1), vbool s.2]))) ++ [some (O.row 1 0 (List.map (eI .u8) s.1))] = ob1) ⟨_, _, ?_, rfl, rfl⟩ ?_ ?_
      ·exact To.mv2 [(3, 0)] (BaseM.set hob (by exact ⟨VM.rowL (j := 3) (t := 0) rfl (by first | rfl | simp | simp_all | omega), vS, trivial⟩)) (by simp) (by decide) (by simp only [go_sem]; exact ⟨VM.self (by simp [*]), vS, vS, vS, vS, vS, VM.eqv (by simp) (by simp)⟩) ⟨⟨_, rfl, OM.row' (by first | rfl | simp_all)⟩, trivial⟩
      ·rintro i3 ⟨x11, x12⟩ o3 hi3 hw3 h ho3 as1 ob1 ⟨rfl, rfl⟩
       rw [code_writer_fn.b3] at h
       refine X_sr (lx_ok γ) ?_
       simp -implicitDefEqProofs only [go_sem, seval, f1, hi2, hi3, hsA, hsB, hsC]
       refine X_seq ?_
       refine X_cond (lx_ok γ) ?_
       simp -implicitDefEqProofs only [go_sem, seval, f1, hi2, hi3, hsA, hsB, hsC]
       refine X_skip ?_
       try simp -implicitDefEqProofs only [go_sem]
       refine X_seq ?_
       refine X_block ?_
       refine X_sr (lx_ok γ) ?_
       obtain ⟨x14, f9, h⟩ := bindE h
       obtain ⟨f10, f11⟩ := ixL_nat f9
       have f12 : (0 : Int) ≤ (i3 : Int) := Int.natCast_nonneg _
       simp -implicitDefEqProofs only [go_sem, seval, f1, hi2, hi3, hsA, hsB, hsC, f10, f11, f12]
       refine X_reg (lx_ok γ) ?_
       obtain ⟨x15, f13, h⟩ := bindE h
       simp -implicitDefEqProofs only [go_sem, seval, f1, hi2, hi3, hsA, hsB, hsC]
       refine callV_eq (code_writer_ins_ok γ _ (by simp -implicitDefEqProofs only [go_sem, seval, f1, hi2, hi3, hsA, hsB, hsC]; try rfl) (by simp -implicitDefEqProofs only [go_sem, seval, f1, hi2, hi3, hsA, hsB, hsC]; try rfl) f13) rfl rfl ?_
       simp -implicitDefEqProofs only [go_sem, seval, f1, hi2, hi3, hsA, hsB, hsC]
       refine X_reg (lx_ok γ) ?_
       obtain rfl := sI h
       simp -implicitDefEqProofs only [go_sem, seval, f1, hi2, hi3, hsA, hsB, hsC]
       refine kR_in rfl ?_ ⟨rfl, rfl⟩
       exact To.mv2 [(2, 0)] (BaseM.set hob (by exact ⟨VM.rowL (j := 2) (t := 0) rfl (by first | rfl | simp | simp_all | omega), vS, trivial⟩)) (by simp) (by decide) (by simp only [go_sem]; exact ⟨VM.self (by simp [*]), vS, vS, vS, vS, vS, VM.eqv (by rw [hw3]) (by simp)⟩) ⟨⟨_, rfl, OM.row' (by first | rfl | simp_all)⟩, trivial⟩
      ·rintro i3 ⟨x11, x12⟩ hi3 hn3 as1 ob1 ⟨rfl, rfl⟩
       refine X_sr (lx_ok γ) ?_
       simp -implicitDefEqProofs only [go_sem, seval, f1, hi2, hi3, hsA, hsB, hsC]
       refine X_seq ?_
       refine X_cond (lx_ok γ) ?_
       simp -implicitDefEqProofs only [go_sem, seval, f1, hi2, hi3, hsA, hsB, hsC]
       have h := hk3 _ (.inl hn3)
       refine X_exit ?_
       try simp -implicitDefEqProofs only [go_sem, ↓reduceIte, Nat.reduceEqDiff, reduceCtorEq]
       refine kJ_in ?_ ⟨x11, x12, h, rfl, rfl⟩
       exact To.mv2 [(0, 0)] (BaseM.set hob (by exact ⟨VM.rowL (j := 0) (t := 0) rfl (by first | rfl | simp | simp_all | omega), vS, trivial⟩)) (by simp) (by decide) (by simp only [go_sem]; exact ⟨VM.self (by simp [*]), vS, vS, vS⟩) ⟨⟨_, rfl, OM.row' (by first | rfl | simp_all)⟩, trivial⟩
    ·rintro i2 ⟨x6, x7⟩ hi2 hn2 as1 ob1 ⟨rfl, rfl⟩
     refine X_sr (lx_ok γ) ?_
     simp -implicitDefEqProofs only [go_sem, seval, f1, hi2, hsA, hsB, hsC]
     refine X_seq ?_
     refine X_cond (lx_ok γ) ?_
     simp -implicitDefEqProofs only [go_sem, seval, f1, hi2, hsA, hsB, hsC]
     have h := hk2 _ (.inl hn2)
     refine X_exit ?_
     try simp -implicitDefEqProofs only [go_sem, ↓reduceIte, Nat.reduceEqDiff, reduceCtorEq]
     refine kJ_in ?_ ⟨x6, x7, h, rfl, rfl⟩
     exact To.mv2 [(0, 0)] (BaseM.set hob (by exact ⟨VM.rowL (j := 0) (t := 0) rfl (by first | rfl | simp | simp_all | omega), vS, trivial⟩)) (by simp) (by decide) trivial ⟨⟨_, rfl, OM.row' (by first | rfl | simp_all)⟩, trivial⟩
  ·refine X_block ?_
   obtain ⟨lr1, hl1, hk1, hr1⟩ := aft2 h
   refine X_forN hl1 (fun (i1 : Nat) (s : (List Int) × Bool) as1 ob1 => [(0, V.ref o0 0), (3, V.ref ob.length 0), (27, V.tr (.sl 1 false (List.map (eI .i64) a1.Kinds))), (28, vint .i64 (List.length a1.Kinds : Int)), (29, vint .i64 (i1 : Int))] = as1 ∧ (List.set ob o0 (some (O.box [V.row (ob.length + 1) 0 0 (List.length s.1), vbool s.2]))) ++ [some (O.box [V.tr (.sl 1 false (List.map (eI .i64) a1.Kinds)), V.tr (.sl 1 false (List.map (eI .i64) a1.Base)), vint .i64 a1.Params, vint .i64 a1.Result, V.tr (.sl 1 false (List.map e_Block a1.Blocks))]), some (O.row 1 0 (List.map (eI .u8) s.1))] = ob1) ⟨_, _, ?_, rfl, rfl⟩ ?_ ?_
   ·exact To.mv2 [(1, 0), (3, 0)] (BaseM.set hob (by exact ⟨VM.rowL (j := 3) (t := 1) rfl (by first | rfl | simp | simp_all | omega), vS, trivial⟩)) (by simp) (by decide) (by simp only [go_sem]; exact ⟨VM.self (by simp [*]), VM.refA (j := 1) (t := 0) rfl, vS, vS, VM.eqv (by simp) (by simp)⟩) ⟨⟨_, rfl, OM.box _ _ ⟨vS, vS, vS, vS, vS, trivial⟩⟩, ⟨_, rfl, OM.row' (by first | rfl | simp_all)⟩, trivial⟩
   ·rintro i1 ⟨x2, x3⟩ o1 hi1 hw1 h ho1 as1 ob1 ⟨rfl, rfl⟩
    rw [code_writer_fn.b1] at h
    refine X_sr (lx_ok γ) ?_
    simp -implicitDefEqProofs only [go_sem, seval, f1, hi1, hsA, hsB, hsC]
    refine X_seq ?_
    refine X_cond (lx_ok γ) ?_
    simp -implicitDefEqProofs only [go_sem, seval, f1, hi1, hsA, hsB, hsC]
    refine X_skip ?_
    try simp -implicitDefEqProofs only [go_sem]
    refine X_seq ?_
    refine X_block ?_
    refine X_sr (lx_ok γ) ?_
    obtain ⟨x16, f14, h⟩ := bindE h
    obtain ⟨f15, f16⟩ := ixL_nat f14
    have f17 : (0 : Int) ≤ (i1 : Int) := Int.natCast_nonneg _
    simp -implicitDefEqProofs only [go_sem, seval, f1, hi1, hsA, hsB, hsC, f15, f16, f17]
    refine X_sr (lx_ok γ) ?_
    obtain ⟨x17, f18, h⟩ := bindE h
    simp -implicitDefEqProofs only [go_sem, seval, f1, hi1, hsA, hsB, hsC]
    refine callV_eq (Valid.frzB (b := (List.set ob o0 (some (O.box [V.row (ob.length + 1) 0 0 (List.length x2), vbool x3])))) (B := ob.length) (by simp) (l := [some (O.box [V.tr (.sl 1 false (List.map (eI .i64) a1.Kinds)), V.tr (.sl 1 false (List.map (eI .i64) a1.Base)), vint .i64 a1.Params, vint .i64 a1.Result, V.tr (.sl 1 false (List.map e_Block a1.Blocks))]), some (O.row 1 0 (List.map (eI .u8) x2)), some (O.row 1 0 (List.map (eI .i64) [x16]))]) (l' := [some (O.box [V.tr (.sl 1 false (List.map (eI .i64) a1.Kinds)), V.tr (.sl 1 false (List.map (eI .i64) a1.Base)), vint .i64 a1.Params, vint .i64 a1.Result, V.tr (.sl 1 false (List.map e_Block a1.Blocks))]), some (O.row 1 0 (List.map (eI .u8) x2)), none]) (args := [V.ref o0 0, V.row (ob.length + 2) 0 0 1]) (args' := [V.ref o0 0, V.tr (.sl 1 false (List.map (eI .i64) [x16]))]) 2 rfl rfl ⟨VZ.refl, VZ.row (by first | rfl | simp), trivial⟩ (code_writer_put_ok γ _ (by simp -implicitDefEqProofs only [go_sem, seval, f1, hi1, hsA, hsB, hsC]; try rfl) (by simp -implicitDefEqProofs only [go_sem, seval, f1, hi1, hsA, hsB, hsC]; try rfl) f18)) rfl rfl ?_
    simp -implicitDefEqProofs only [go_sem, seval, f1, hi1, hsA, hsB, hsC]
    refine X_block ?_
    refine X_sr (lx_ok γ) ?_
    simp -implicitDefEqProofs only [go_sem, seval, f1, hi1, hsA, hsB, hsC]
    cases f19 : (x16 == 2)
    ·rw [if_neg (nF f19)] at h
     refine X_cond (lx_ok γ) ?_
     simp -implicitDefEqProofs only [go_sem, seval, f1, hi1, f19, hsA, hsB, hsC]
     refine X_sr (lx_ok γ) ?_
     cases f20 : decide (2 < x16)
     ·rw [if_neg (nF f20)] at h
      obtain ⟨x18, f21, h⟩ := bindE h
      obtain ⟨f22, f23⟩ := ixL_nat f21
      have f24 : (0 : Int) ≤ (i1 : Int) := Int.natCast_nonneg _
      simp -implicitDefEqProofs only [go_sem, seval, f1, hi1, f19, f20, hsA, hsB, hsC, f22, f23, f24]
      cases f25 : (x18 != (-1))
      ·rw [if_neg (nF f25)] at h
       refine X_cond (lx_ok γ) ?_
       simp -implicitDefEqProofs only [go_sem, seval, f1, hi1, f19, f20, f25, hsA, hsB, hsC, f22, f23, f24]
       refine X_skip ?_
       try simp -implicitDefEqProofs only [go_sem]
       refine X_reg (lx_ok γ) ?_
       obtain rfl := sI h
       simp -implicitDefEqProofs only [go_sem, seval, f1, hi1, f19, f20, f25, hsA, hsB, hsC]
       refine kR_in rfl ?_ ⟨rfl, rfl⟩
       exact To.mv2 [(0, 0), (3, 0)] (BaseM.set hob (by exact ⟨VM.rowL (j := 3) (t := 1) rfl (by first | rfl | simp | simp_all | omega), vS, trivial⟩)) (by simp) (by decide) (by simp only [go_sem]; exact ⟨VM.self (by simp [*]), VM.refA (j := 0) (t := 0) rfl, vS, vS, VM.eqv (by rw [hw1]) (by simp)⟩) ⟨⟨_, rfl, OM.box _ _ ⟨vS, vS, vS, vS, vS, trivial⟩⟩, ⟨_, rfl, OM.row' (by first | rfl | simp_all)⟩, trivial⟩
      ·rw [if_pos f25] at h
       refine X_cond (lx_ok γ) ?_
       simp -implicitDefEqProofs only [go_sem, seval, f1, hi1, f19, f20, f25, hsA, hsB, hsC, f22, f23, f24]
       refine X_reg (lx_ok γ) ?_
       simp -implicitDefEqProofs only [go_sem, seval, f1, hi1, f19, f20, f25, hsA, hsB, hsC]
       refine X_reg (lx_ok γ) ?_
       obtain rfl := sI h
       simp -implicitDefEqProofs only [go_sem, seval, f1, hi1, f19, f20, f25, hsA, hsB, hsC]
       refine kR_in rfl ?_ ⟨rfl, rfl⟩
       exact To.mv2 [(0, 0), (3, 0)] (BaseM.set hob (by exact ⟨VM.rowL (j := 3) (t := 1) rfl (by first | rfl | simp | simp_all | omega), vS, trivial⟩)) (by simp) (by decide) (by simp only [go_sem]; exact ⟨VM.self (by simp [*]), VM.refA (j := 0) (t := 0) rfl, vS, vS, VM.eqv (by rw [hw1]) (by simp)⟩) ⟨⟨_, rfl, OM.box _ _ ⟨vS, vS, vS, vS, vS, trivial⟩⟩, ⟨_, rfl, OM.row' (by first | rfl | simp_all)⟩, trivial⟩
     ·rw [if_pos f20] at h
      simp -implicitDefEqProofs only [go_sem, seval, f1, hi1, f19, f20, hsA, hsB, hsC]
      refine X_condT (lx_ok γ) rfl ?_
      refine X_reg (lx_ok γ) ?_
      simp -implicitDefEqProofs only [go_sem, seval, f1, hi1, f19, f20, hsA, hsB, hsC]
      refine X_reg (lx_ok γ) ?_
      obtain rfl := sI h
      simp -implicitDefEqProofs only [go_sem, seval, f1, hi1, f19, f20, hsA, hsB, hsC]
      refine kR_in rfl ?_ ⟨rfl, rfl⟩
      exact To.mv2 [(0, 0), (3, 0)] (BaseM.set hob (by exact ⟨VM.rowL (j := 3) (t := 1) rfl (by first | rfl | simp | simp_all | omega), vS, trivial⟩)) (by simp) (by decide) (by simp only [go_sem]; exact ⟨VM.self (by simp [*]), VM.refA (j := 0) (t := 0) rfl, vS, vS, VM.eqv (by rw [hw1]) (by simp)⟩) ⟨⟨_, rfl, OM.box _ _ ⟨vS, vS, vS, vS, vS, trivial⟩⟩, ⟨_, rfl, OM.row' (by first | rfl | simp_all)⟩, trivial⟩
    ·rw [if_pos f19] at h
     refine X_cond (lx_ok γ) ?_
     simp -implicitDefEqProofs only [go_sem, seval, f1, hi1, f19, hsA, hsB, hsC]
     refine X_reg (lx_ok γ) ?_
     obtain ⟨x19, f26, h⟩ := bindE h
     obtain ⟨f27, f28⟩ := ixL_nat f26
     have f29 : (0 : Int) ≤ (i1 : Int) := Int.natCast_nonneg _
     obtain ⟨x20, f30, h⟩ := bindE h
     simp -implicitDefEqProofs only [go_sem, seval, f1, hi1, f19, hsA, hsB, hsC, f27, f28, f29]
     refine callV_eq (Valid.frzB (b := (List.set ob o0 (some (O.box [V.row (ob.length + 3) 0 0 (List.length x17.b), vbool x17.bad])))) (B := ob.length) (by simp) (l := [some (O.box [V.tr (.sl 1 false (List.map (eI .i64) a1.Kinds)), V.tr (.sl 1 false (List.map (eI .i64) a1.Base)), vint .i64 a1.Params, vint .i64 a1.Result, V.tr (.sl 1 false (List.map e_Block a1.Blocks))]), none, none, some (O.row 1 0 (List.map (eI .u8) x17.b)), some (O.row 1 0 (List.map (eI .i64) [x19]))]) (l' := [some (O.box [V.tr (.sl 1 false (List.map (eI .i64) a1.Kinds)), V.tr (.sl 1 false (List.map (eI .i64) a1.Base)), vint .i64 a1.Params, vint .i64 a1.Result, V.tr (.sl 1 false (List.map e_Block a1.Blocks))]), none, none, some (O.row 1 0 (List.map (eI .u8) x17.b)), none]) (args := [V.ref o0 0, V.row (ob.length + 4) 0 0 1]) (args' := [V.ref o0 0, V.tr (.sl 1 false (List.map (eI .i64) [x19]))]) 4 rfl rfl ⟨VZ.refl, VZ.row (by first | rfl | simp), trivial⟩ (code_writer_put_ok γ _ (by simp -implicitDefEqProofs only [go_sem, seval, f1, hi1, f19, hsA, hsB, hsC, f27, f28, f29]; try rfl) (by simp -implicitDefEqProofs only [go_sem, seval, f1, hi1, f19, hsA, hsB, hsC, f27, f28, f29]; try rfl) f30)) rfl rfl ?_
     simp -implicitDefEqProofs only [go_sem, seval, f1, hi1, f19, hsA, hsB, hsC, f27, f28, f29]
     refine X_reg (lx_ok γ) ?_
     obtain rfl := sI h
     simp -implicitDefEqProofs only [go_sem, seval, f1, hi1, f19, hsA, hsB, hsC]
     refine kR_in rfl ?_ ⟨rfl, rfl⟩
     exact To.mv2 [(0, 0), (5, 0)] (BaseM.set hob (by exact ⟨VM.rowL (j := 5) (t := 1) rfl (by first | rfl | simp | simp_all | omega), vS, trivial⟩)) (by simp) (by decide) (by simp only [go_sem]; exact ⟨VM.self (by simp [*]), VM.refA (j := 0) (t := 0) rfl, vS, vS, VM.eqv (by rw [hw1]) (by simp)⟩) ⟨⟨_, rfl, OM.box _ _ ⟨vS, vS, vS, vS, vS, trivial⟩⟩, ⟨_, rfl, OM.row' (by first | rfl | simp_all)⟩, trivial⟩
   ·rintro i1 ⟨x2, x3⟩ hi1 hn1 as1 ob1 ⟨rfl, rfl⟩
    refine X_sr (lx_ok γ) ?_
    simp -implicitDefEqProofs only [go_sem, seval, f1, hi1, hsA, hsB, hsC]
    refine X_seq ?_
    refine X_cond (lx_ok γ) ?_
    simp -implicitDefEqProofs only [go_sem, seval, f1, hi1, hsA, hsB, hsC]
    have h := hk1 _ (.inl hn1)
    refine X_exit ?_
    try simp -implicitDefEqProofs only [go_sem, ↓reduceIte, Nat.reduceEqDiff, reduceCtorEq]
    refine kJ_in ?_ ⟨x2, x3, h, rfl, rfl⟩
    exact To.mv2 [(0, 0), (1, 0)] (BaseM.set hob (by exact ⟨VM.rowL (j := 1) (t := 1) rfl (by first | rfl | simp | simp_all | omega), vS, trivial⟩)) (by simp) (by decide) (by simp only [go_sem]; exact ⟨VM.self (by simp [*]), VM.refA (j := 0) (t := 0) rfl⟩) ⟨⟨_, rfl, OM.box _ _ ⟨vS, vS, vS, vS, vS, trivial⟩⟩, ⟨_, rfl, OM.row' (by first | rfl | simp_all)⟩, trivial⟩
 ·rw [if_pos f1] at h
  refine X_cond (lx_ok γ) ?_
  simp -implicitDefEqProofs only [go_sem, seval, f1, hsA, hsB, hsC]
  refine X_sr (lx_ok γ) ?_
  simp -implicitDefEqProofs only [go_sem, seval, f1, hsA, hsB, hsC]
  obtain rfl := sI h
  refine X_ret ?_
  simp -implicitDefEqProofs only [go_sem, seval, f1, hsA, hsB, hsC]
  exact Rt.mv2 [(0, 0)] (BaseM.set hob (by exact ⟨VM.rowL (j := 0) (t := 0) rfl (by first | rfl | simp | simp_all | omega), vS, trivial⟩)) (by simp) (by decide) (VM.tup trivial) ⟨⟨_, rfl, OM.row' (by first | rfl | simp_all)⟩, trivial⟩
end Go.Pf
end
section
set_option maxRecDepth 100000
namespace Go.Pf
open Go Go.Ab Go.Pp Go.Proofs Go.Proofs.S04
attribute [local go_sem] Lxτ Lxγ gam0 Int.toNat_natCast tau3 tau4 tau5 tau22 tau24 tau27 tau28 tau29 tau31 tau35 tau42 tau44 tau45 tau69 tau71 eI eB eS e_Ins e_Block e_Func e_Prog e_code_writer e_code_reader e_Edge
set_option maxHeartbeats 1000000 in
theorem code_Encode_ok (γ : GT) (ob : OT) {a0 : Prog} {v0_0 : V} (hv0_0 : rdK (getO ob) 5 v0_0 = some (List.map e_Func a0.Funcs)) {r : List Int × Int} (h : code_Encode a0 = some r) :
  Valid (Lx γ) 26 [V.agg [v0_0]] ob (V.tup [V.tr (.sl 1 false (List.map (eI .u8) r.1)), vint .i64 r.2]) ob := by
 refine valid_X (lx_ok γ) (fn := Tryd.f26) (rs := [.tmp 2, .tmp 3]) Tryd.func26 (by kernel_rfl) rfl rfl Tryd.ntmps26 rfl (by simp) fun hb hob => ?_
 have hq := rd4 hv0_0
 rw [code_Encode] at h
 refine X_sr (lx_ok γ) ?_
 simp -implicitDefEqProofs only [go_sem, seval, hq]
 refine X_seq ?_
 refine X_seq ?_
 refine X_jq (J := fun as1 ob1 => ∃ (x3 : Bool), code_Encode.j1 a0 x3 = some r ∧ [(1, V.ref ob.length 0), (21, vbool x3)] = as1 ∧ ob ++ [some (O.box [v0_0])] = ob1) ?_ ?_
 ·rintro as1 ob1 ⟨x3, h, rfl, rfl⟩
  rw [code_Encode.j1] at h
  simp -implicitDefEqProofs only [go_sem, seval, hq]
  cases f1 : x3
  ·rw [if_neg (nF f1)] at h
   refine X_cond (lx_ok γ) ?_
   simp -implicitDefEqProofs only [go_sem, seval, f1, hq]
   refine X_skip ?_
   try simp -implicitDefEqProofs only [go_sem]
   refine X_sr (lx_ok γ) ?_
   simp -implicitDefEqProofs only [go_sem, seval, f1, hq]
   refine X_sr (lx_ok γ) ?_
   obtain ⟨x4, f2, h⟩ := bindE h
   simp -implicitDefEqProofs only [go_sem, seval, f1, hq]
   refine callV_eq (Valid.ghost2 (args := [V.ref (ob.length + 1) 0, V.row (ob.length + 2) 0 0 1]) (args' := [V.ref (ob.length + 1) 0, V.row (ob.length + 2) 0 0 1]) (b := ob) (l := [some (O.box [v0_0]), some (O.box [V.tr (.sl 0 true []), vbool false]), some (O.row 1 0 (List.map (eI .i64) [(List.length a0.Funcs : Int)]))]) (l' := [some (O.box [v0_0]), some (O.box [V.row (ob.length + 3) 0 0 0, vbool false]), some (O.row 1 0 (List.map (eI .i64) [(List.length a0.Funcs : Int)]))]) 1 ⟨VG.refl _ _ _, VG.refl _ _ _, trivial⟩ (by exact ⟨Or.inl rfl, Or.inr ⟨_, _, rfl, rfl, .box _ _ ⟨VG.nilL, VG.refl _ _ _, trivial⟩⟩, Or.inl rfl, trivial⟩) (Valid.frzR (b := ob) (l := [some (O.box [v0_0]), some (O.box [V.row (ob.length + 3) 0 0 0, vbool false]), some (O.row 1 0 (List.map (eI .i64) [(List.length a0.Funcs : Int)])), some (O.row 1 0 (List.map (eI .u8) []))]) (l' := [some (O.box [v0_0]), some (O.box [V.row (ob.length + 3) 0 0 0, vbool false]), none, some (O.row 1 0 (List.map (eI .u8) []))]) (args := [V.ref (ob.length + 1) 0, V.row (ob.length + 2) 0 0 1]) (args' := [V.ref (ob.length + 1) 0, V.tr (.sl 1 false (List.map (eI .i64) [(List.length a0.Funcs : Int)]))]) 2 rfl rfl ⟨VZ.refl, VZ.row (by first | rfl | simp), trivial⟩ (code_writer_put_ok γ _ (by simp -implicitDefEqProofs only [go_sem, seval, f1, hq]; try rfl) (by simp -implicitDefEqProofs only [go_sem, seval, f1, hq]; try rfl) f2))) rfl rfl ?_
   simp -implicitDefEqProofs only [go_sem, seval, f1, hq]
   refine X_seq ?_
   refine X_sr (lx_ok γ) ?_
   simp -implicitDefEqProofs only [go_sem, seval, f1, hq]
   refine X_jq (J := fun as1 ob1 => ∃ (x5 : Bool) (x6 : List Int), code_Encode.k1 x5 x6 = some r ∧ [(4, V.ref ob.length 0)] = as1 ∧ ob ++ [some (O.box [V.row (ob.length + 1) 0 0 (List.length x6), vbool x5]), some (O.row 1 0 (List.map (eI .u8) x6))] = ob1) ?_ ?_
   ·rintro as1 ob1 ⟨x5, x6, h, rfl, rfl⟩
    rw [code_Encode.k1] at h
    simp -implicitDefEqProofs only [go_sem, seval, f1, hq]
    refine X_seq ?_
    refine X_sr (lx_ok γ) ?_
    simp -implicitDefEqProofs only [go_sem, seval, f1, hq]
    cases f3 : x5
    ·rw [if_neg (nF f3)] at h
     refine X_cond (lx_ok γ) ?_
     simp -implicitDefEqProofs only [go_sem, seval, f1, f3, hq]
     refine X_skip ?_
     try simp -implicitDefEqProofs only [go_sem]
     refine X_sr (lx_ok γ) ?_
     simp -implicitDefEqProofs only [go_sem, seval, f1, f3, hq]
     obtain rfl := sI h
     refine X_ret ?_
     simp -implicitDefEqProofs only [go_sem, seval, f1, f3, hq]
     refine Rt.trans (Rt.freeze (by simp only [go_sem, ↓reduceIte, Nat.reduceAdd, Nat.reduceEqDiff, frz, frzL]; rfl)) ?_
     simp -implicitDefEqProofs only [go_sem, seval, f1, f3, hq]
     exact Rt.mv0 (BaseR.refl hob) (by simp) (VM.tup ⟨vS, vS, trivial⟩)
    ·rw [if_pos f3] at h
     refine X_cond (lx_ok γ) ?_
     simp -implicitDefEqProofs only [go_sem, seval, f1, f3, hq]
     refine X_sr (lx_ok γ) ?_
     simp -implicitDefEqProofs only [go_sem, seval, f1, f3, hq]
     obtain rfl := sI h
     refine X_ret ?_
     simp -implicitDefEqProofs only [go_sem, seval, f1, f3, hq]
     exact Rt.mv0 (BaseR.refl hob) (by simp) (VM.tup ⟨VM.nil _ _ _, vS, trivial⟩)
   ·refine X_block ?_
    obtain ⟨lr1, hl1, hk1, hr1⟩ := aft2 h
    refine X_forN hl1 (fun (i1 : Nat) (s : Bool × (List Int)) as1 ob1 => [(4, V.ref ob.length 0), (31, v0_0), (32, vint .i64 (List.length a0.Funcs : Int)), (33, vint .i64 (i1 : Int))] = as1 ∧ ob ++ [some (O.box [V.row (ob.length + 1) 0 0 (List.length s.2), vbool s.1]), some (O.row 1 0 (List.map (eI .u8) s.2))] = ob1) ⟨_, _, ?_, rfl, rfl⟩ ?_ ?_
    ·exact To.mv [(1, 0), (4, 0)] (BaseR.refl hob) (by simp) (by decide) (by simp only [go_sem]; exact ⟨VM.refA (j := 1) (t := 0) rfl, VM.self (by simpa using Bd.of_rdK hv0_0), vS, VM.eqv (by simp) (by simp)⟩) ⟨⟨_, rfl, OM.box _ _ ⟨VM.rowL (j := 4) (t := 1) rfl (by first | rfl | simp | simp_all | omega), vS, trivial⟩⟩, ⟨_, rfl, OM.row' (by first | rfl | simp_all)⟩, trivial⟩
    ·rintro i1 ⟨x5, x6⟩ o1 hi1 hw1 h ho1 as1 ob1 ⟨rfl, rfl⟩
     rw [code_Encode.b1] at h
     refine X_sr (lx_ok γ) ?_
     simp -implicitDefEqProofs only [go_sem, seval, f1, hi1, hq]
     refine X_seq ?_
     refine X_cond (lx_ok γ) ?_
     simp -implicitDefEqProofs only [go_sem, seval, f1, hi1, hq]
     refine X_skip ?_
     try simp -implicitDefEqProofs only [go_sem]
     refine X_seq ?_
     refine X_block ?_
     refine X_sr (lx_ok γ) ?_
     obtain ⟨x8, f4, h⟩ := bindE h
     obtain ⟨f5, f6⟩ := ixL_nat f4
     have f7 : (0 : Int) ≤ (i1 : Int) := Int.natCast_nonneg _
     simp -implicitDefEqProofs only [go_sem, seval, f1, hi1, hq, f5, f6, f7]
     refine X_reg (lx_ok γ) ?_
     obtain ⟨x9, f8, h⟩ := bindE h
     simp -implicitDefEqProofs only [go_sem, seval, f1, hi1, hq]
     refine callV_eq (code_writer_fn_ok γ _ (by simp -implicitDefEqProofs only [go_sem, seval, f1, hi1, hq]; try rfl) (by simp -implicitDefEqProofs only [go_sem, seval, f1, hi1, hq]; try rfl) f8) rfl rfl ?_
     simp -implicitDefEqProofs only [go_sem, seval, f1, hi1, hq]
     refine X_reg (lx_ok γ) ?_
     obtain rfl := sI h
     simp -implicitDefEqProofs only [go_sem, seval, f1, hi1, hq]
     refine kR_in rfl ?_ ⟨rfl, rfl⟩
     exact To.mv [(0, 0), (3, 0)] (BaseR.refl hob) (by simp) (by decide) (by simp only [go_sem]; exact ⟨VM.refA (j := 0) (t := 0) rfl, VM.self (by simpa using Bd.of_rdK hv0_0), vS, VM.eqv (by rw [hw1]) (by simp)⟩) ⟨⟨_, rfl, OM.box _ _ ⟨VM.rowL (j := 3) (t := 1) rfl (by first | rfl | simp | simp_all | omega), vS, trivial⟩⟩, ⟨_, rfl, OM.row' (by first | rfl | simp_all)⟩, trivial⟩
    ·rintro i1 ⟨x5, x6⟩ hi1 hn1 as1 ob1 ⟨rfl, rfl⟩
     refine X_sr (lx_ok γ) ?_
     simp -implicitDefEqProofs only [go_sem, seval, f1, hi1, hq]
     refine X_seq ?_
     refine X_cond (lx_ok γ) ?_
     simp -implicitDefEqProofs only [go_sem, seval, f1, hi1, hq]
     have h := hk1 _ (.inl hn1)
     refine X_exit ?_
     try simp -implicitDefEqProofs only [go_sem, ↓reduceIte, Nat.reduceEqDiff, reduceCtorEq]
     refine kJ_in ?_ ⟨x5, x6, h, rfl, rfl⟩
     exact To.mv [(0, 0), (1, 0)] (BaseR.refl hob) (by simp) (by decide) (by simp only [go_sem]; exact VM.refA (j := 0) (t := 0) rfl) ⟨⟨_, rfl, OM.box _ _ ⟨VM.rowL (j := 1) (t := 1) rfl (by first | rfl | simp | simp_all | omega), vS, trivial⟩⟩, ⟨_, rfl, OM.row' (by first | rfl | simp_all)⟩, trivial⟩
  ·rw [if_pos f1] at h
   refine X_cond (lx_ok γ) ?_
   simp -implicitDefEqProofs only [go_sem, seval, f1, hq]
   refine X_sr (lx_ok γ) ?_
   simp -implicitDefEqProofs only [go_sem, seval, f1, hq]
   obtain rfl := sI h
   refine X_ret ?_
   simp -implicitDefEqProofs only [go_sem, seval, f1, hq]
   exact Rt.mv0 (BaseR.refl hob) (by simp) (VM.tup ⟨VM.nil _ _ _, vS, trivial⟩)
 ·refine X_reg (lx_ok γ) ?_
  cases f9 : decide ((List.length a0.Funcs : Int) < 1)
  ·rw [if_neg (nF f9)] at h
   cases f10 : decide (8 < (List.length a0.Funcs : Int))
   ·rw [if_neg (nF f10)] at h
    obtain ⟨x10, f11, h⟩ := bindE h
    simp -implicitDefEqProofs only [go_sem, seval, f9, f10, hq]
    refine callV_eq (slices_ContainsFunc_Func_ok γ _ (by first | exact rdK_app hv0_0 | exact hv0_0) (fun ob1 hp y0 r hx => by obtain ⟨l, rfl⟩ := hp; exact code_Encode_1_ok γ _ (by simp -implicitDefEqProofs only [go_sem, seval, f9, f10, hq]; try rfl) (by simp -implicitDefEqProofs only [go_sem, seval, f9, f10, hq]; try rfl) (by simp -implicitDefEqProofs only [go_sem, seval, f9, f10, hq]; try rfl) hx) f11) rfl rfl ?_
    simp -implicitDefEqProofs only [go_sem, seval, f9, f10, hq]
    refine kJ_in ?_ ⟨x10, h, rfl, rfl⟩
    exact To.mv [(0, 0)] (BaseR.refl hob) (by simp) (by decide) (by simp only [go_sem]; exact ⟨VM.refA (j := 0) (t := 0) rfl, vS⟩) ⟨⟨_, rfl, OM.box _ _ ⟨VM.self (by simpa using Bd.of_rdK hv0_0), trivial⟩⟩, trivial⟩
   ·rw [if_pos f10] at h
    simp -implicitDefEqProofs only [go_sem, seval, f9, f10, hq]
    refine kJ_in ?_ ⟨true, h, rfl, rfl⟩
    exact To.mv [(0, 0)] (BaseR.refl hob) (by simp) (by decide) (by simp only [go_sem]; exact ⟨VM.refA (j := 0) (t := 0) rfl, vS⟩) ⟨⟨_, rfl, OM.box _ _ ⟨VM.self (by simpa using Bd.of_rdK hv0_0), trivial⟩⟩, trivial⟩
  ·rw [if_pos f9] at h
   simp -implicitDefEqProofs only [go_sem, seval, f9, hq]
   refine kJ_in ?_ ⟨true, h, rfl, rfl⟩
   exact To.mv [(0, 0)] (BaseR.refl hob) (by simp) (by decide) (by simp only [go_sem]; exact ⟨VM.refA (j := 0) (t := 0) rfl, vS⟩) ⟨⟨_, rfl, OM.box _ _ ⟨VM.self (by simpa using Bd.of_rdK hv0_0), trivial⟩⟩, trivial⟩
end Go.Pf
end
section
set_option maxRecDepth 100000
namespace Go.Pf
open Go Go.Ab Go.Pp Go.Proofs Go.Proofs.S04
attribute [local go_sem] Lxτ Lxγ gam0 Int.toNat_natCast tau5 tau32 tau45 tau76 eI eB eS e_Ins e_Block e_Func e_Prog e_code_writer e_code_reader e_Edge
set_option maxHeartbeats 1000000 in
theorem code_reader_take_ok (γ : GT) (ob : OT) {o0 : Nat} {a0 : code_reader} {a1 : (List Int) → Option (Int × Int × Int)} {w1 : V} (hx0 : getO ob o0 = some (O.box [V.tr (.sl 1 false (List.map (eI .u8) a0.b)), vint .i64 a0.err])) (hf1 : ∀ (ob1 : OT) (y0 : List Int) (r : Int × Int × Int), a1 y0 = some r → FnV (Lx γ) w1 [V.tr (.sl 1 false (List.map (eI .u8) y0))] ob1 (V.tup [vint .i64 r.1, vint .i64 r.2.1, vint .i64 r.2.2]) ob1) {r : code_reader × Int} (h : code_reader_take a0 a1 = some r) :
  Valid (Lx γ) 107 [V.ref o0 0, w1] ob (vint .i64 r.2) (List.set ob o0 (some (O.box [V.tr (.sl 1 false (List.map (eI .u8) r.1.b)), vint .i64 r.1.err]))) := by
 refine valid_X (lx_ok γ) (fn := Tryd.f107) (rs := [.tmp 4]) Tryd.func107 (by kernel_rfl) rfl rfl Tryd.ntmps107 rfl (by simp) fun hb hob => ?_
 have hoa0 := getO_lt hx0
 refine X_ob (set_own hx0) ?_
 have hsA : ∀ (x : Option O) (l : OT), getO (List.set ob o0 x ++ l) o0 = x := fun _ _ => getO_selfA hoa0
 have hsB : ∀ (x : Option O), getO (List.set ob o0 x) o0 = x := fun _ => getO_self hoa0
 have hsC : ∀ (x y : Option O) (l : OT), List.set (List.set ob o0 x ++ l) o0 y = List.set ob o0 y ++ l := fun _ _ _ => set_selfA hoa0
 rw [code_reader_take] at h
 refine X_sr (lx_ok γ) ?_
 simp -implicitDefEqProofs only [go_sem, seval, hsA, hsB, hsC]
 refine X_seq ?_
 refine X_sr (lx_ok γ) ?_
 simp -implicitDefEqProofs only [go_sem, seval, hsA, hsB, hsC]
 cases f1 : (a0.err != 0)
 ·rw [if_neg (nF f1)] at h
  refine X_cond (lx_ok γ) ?_
  simp -implicitDefEqProofs only [go_sem, seval, f1, hsA, hsB, hsC]
  refine X_skip ?_
  try simp -implicitDefEqProofs only [go_sem]
  refine X_sr (lx_ok γ) ?_
  obtain ⟨x1, f2, h⟩ := bindE h
  simp -implicitDefEqProofs only [go_sem, seval, f1, hsA, hsB, hsC]
  refine callV_fn (hf1 _ _ _ f2) rfl rfl ?_
  simp -implicitDefEqProofs only [go_sem, seval, f1, hsA, hsB, hsC]
  refine X_seq ?_
  refine X_sr (lx_ok γ) ?_
  simp -implicitDefEqProofs only [go_sem, seval, f1, hsA, hsB, hsC]
  cases f3 : (x1.2.2 != 0)
  ·rw [if_neg (nF f3)] at h
   refine X_cond (lx_ok γ) ?_
   simp -implicitDefEqProofs only [go_sem, seval, f1, f3, hsA, hsB, hsC]
   refine X_skip ?_
   try simp -implicitDefEqProofs only [go_sem]
   refine X_sr (lx_ok γ) ?_
   obtain ⟨x2, f4, h⟩ := bindE h
   obtain ⟨f5, f6, f7, f8⟩ := tailL_some2 f4
   try simp only [Int.toNat_natCast, Int.reduceToNat] at f6 f7 f8
   simp -implicitDefEqProofs only [go_sem, seval, f1, f3, hsA, hsB, hsC, f5, f6, f7, f8]
   refine X_sr (lx_ok γ) ?_
   simp -implicitDefEqProofs only [go_sem, seval, f1, f3, hsA, hsB, hsC]
   obtain rfl := sI h
   refine X_ret ?_
   simp -implicitDefEqProofs only [go_sem, seval, f1, f3, hsA, hsB, hsC]
   exact Rt.mv1 (BaseR.set hob (.box _ _ (by exact ⟨VLe.self (by simp [*]), VLe.self (by simp [*]), trivial⟩))) (by simp) (vS)
  ·rw [if_pos f3] at h
   refine X_cond (lx_ok γ) ?_
   simp -implicitDefEqProofs only [go_sem, seval, f1, f3, hsA, hsB, hsC]
   refine X_sr (lx_ok γ) ?_
   simp -implicitDefEqProofs only [go_sem, seval, f1, f3, hsA, hsB, hsC]
   refine X_sr (lx_ok γ) ?_
   simp -implicitDefEqProofs only [go_sem, seval, f1, f3, hsA, hsB, hsC]
   obtain rfl := sI h
   refine X_ret ?_
   simp -implicitDefEqProofs only [go_sem, seval, f1, f3, hsA, hsB, hsC]
   exact Rt.mv1 (BaseR.set hob (.box _ _ (by exact ⟨VLe.self (by simp [*]), VLe.self (by simp [*]), trivial⟩))) (by simp) (vS)
 ·rw [if_pos f1] at h
  refine X_cond (lx_ok γ) ?_
  simp -implicitDefEqProofs only [go_sem, seval, f1, hsA, hsB, hsC]
  refine X_sr (lx_ok γ) ?_
  simp -implicitDefEqProofs only [go_sem, seval, f1, hsA, hsB, hsC]
  obtain rfl := sI h
  refine X_ret ?_
  simp -implicitDefEqProofs only [go_sem, seval, f1, hsA, hsB, hsC]
  exact Rt.mv1 (BaseR.set hob (.box _ _ (by exact ⟨VLe.self (by simp [*]), VLe.self (by simp [*]), trivial⟩))) (by simp) (vS)
end Go.Pf
end
section
set_option maxRecDepth 100000
namespace Go.Pf
open Go Go.Ab Go.Pp Go.Proofs Go.Proofs.S04
attribute [local go_sem] Lxτ Lxγ gam0 Int.toNat_natCast tau3 tau5 tau45 tau118 eI eB eS e_Ins e_Block e_Func e_Prog e_code_writer e_code_reader e_Edge
set_option maxHeartbeats 1000000 in
theorem varint_get_ok (γ : GT) (ob : OT) {a0 : List Int} {a1 : Int} {r : Int × Int × Int} (h : varint_get a0 a1 = some r) :
  Valid (Lx γ) 120 [V.tr (.sl 1 false (List.map (eI .u8) a0)), vint .i64 a1] ob (V.tup [vint .u64 r.1, vint .i64 r.2.1, vint .i64 r.2.2]) ob := by
 refine valid_X (lx_ok γ) (fn := Tryd.f120) (rs := [.tmp 4, .tmp 5, .tmp 6]) Tryd.func120 (by kernel_rfl) rfl rfl Tryd.ntmps120 rfl (by simp) fun hb hob => ?_
 rw [varint_get] at h
 refine X_sr (lx_ok γ) ?_
 simp -implicitDefEqProofs only [go_sem, seval]
 refine X_sr (lx_ok γ) ?_
 simp -implicitDefEqProofs only [go_sem, seval]
 refine X_seq ?_
 refine X_sr (lx_ok γ) ?_
 obtain ⟨x1, f1, h⟩ := bindE h
 obtain ⟨f2, f3, f4⟩ := headL_some f1
 try simp only [Int.toNat_natCast, Int.reduceToNat] at f3 f4
 simp -implicitDefEqProofs only [go_sem, seval, f2, f3, f4]
 refine X_jq (J := fun as1 ob1 => varint_get.k1 a0 a1 = some r ∧ [(0, V.tr (.sl 1 false (List.map (eI .u8) a0))), (1, vint .i64 a1)] = as1 ∧ ob = ob1) ?_ ?_
 ·rintro as1 ob1 ⟨h, rfl, rfl⟩
  rw [varint_get.k1] at h
  simp -implicitDefEqProofs only [go_sem, seval]
  refine X_seq ?_
  refine X_sr (lx_ok γ) ?_
  simp -implicitDefEqProofs only [go_sem, seval]
  cases f5 : decide (a1 ≤ (List.length a0 : Int))
  ·rw [if_neg (nF f5)] at h
   refine X_cond (lx_ok γ) ?_
   simp -implicitDefEqProofs only [go_sem, seval, f5]
   refine X_skip ?_
   try simp -implicitDefEqProofs only [go_sem]
   refine X_sr (lx_ok γ) ?_
   simp -implicitDefEqProofs only [go_sem, seval, f5]
   obtain rfl := sI h
   refine X_ret ?_
   simp -implicitDefEqProofs only [go_sem, seval, f5]
   exact Rt.mv1 (BaseR.refl hob) (by simp) (VM.tup ⟨vS, vS, vS, trivial⟩)
  ·rw [if_pos f5] at h
   refine X_cond (lx_ok γ) ?_
   simp -implicitDefEqProofs only [go_sem, seval, f5]
   refine X_sr (lx_ok γ) ?_
   simp -implicitDefEqProofs only [go_sem, seval, f5]
   obtain rfl := sI h
   refine X_ret ?_
   simp -implicitDefEqProofs only [go_sem, seval, f5]
   exact Rt.mv1 (BaseR.refl hob) (by simp) (VM.tup ⟨vS, vS, vS, trivial⟩)
 ·refine X_block ?_
  obtain ⟨lr1, hl1, hk1, hr1⟩ := aft2 h
  refine X_forN hl1 (fun (i1 : Nat) (s : Int) as1 ob1 => [(0, V.tr (.sl 1 false (List.map (eI .u8) a0))), (1, vint .i64 a1), (7, vint .u64 s), (16, V.tr (.sl 1 false (List.map (eI .u8) x1))), (17, vint .i64 (List.length x1 : Int)), (18, vint .i64 (i1 : Int))] = as1 ∧ ob = ob1) ⟨_, _, ?_, rfl, rfl⟩ ?_ ?_
  ·exact To.mv1 (BaseR.refl hob) (by simp) (by simp only [go_sem]; exact ⟨vS, vS, vS, vS, vS, VM.eqv (by simp) (by simp)⟩)
  ·rintro i1 x2 o1 hi1 hw1 h ho1 as1 ob1 ⟨rfl, rfl⟩
   rw [varint_get.b1] at h
   refine X_sr (lx_ok γ) ?_
   simp -implicitDefEqProofs only [go_sem, seval, hi1]
   refine X_seq ?_
   refine X_cond (lx_ok γ) ?_
   simp -implicitDefEqProofs only [go_sem, seval, hi1]
   refine X_skip ?_
   try simp -implicitDefEqProofs only [go_sem]
   refine X_seq ?_
   refine X_block ?_
   refine X_sr (lx_ok γ) ?_
   obtain ⟨x4, f6, h⟩ := bindE h
   obtain ⟨f7, f8⟩ := ixL_nat f6
   have f9 : (0 : Int) ≤ (i1 : Int) := Int.natCast_nonneg _
   simp -implicitDefEqProofs only [go_sem, seval, hi1, f7, f8, f9]
   refine X_sr (lx_ok γ) ?_
   simp -implicitDefEqProofs only [go_sem, seval, hi1]
   refine X_seq ?_
   refine X_jq (J := fun as1 ob1 => varint_get.j1 x2 x4 i1 = some o1 ∧ [(0, V.tr (.sl 1 false (List.map (eI .u8) a0))), (1, vint .i64 a1), (7, vint .u64 x2), (8, vint .i64 (i1 : Int)), (9, vint .u8 x4), (10, vint .u64 (u64 (u8 (clrW 8 x4 128)))), (16, V.tr (.sl 1 false (List.map (eI .u8) x1))), (17, vint .i64 (List.length x1 : Int)), (18, vint .i64 (i1 : Int))] = as1 ∧ ob = ob1) ?_ ?_
   ·rintro as1 ob1 ⟨h, rfl, rfl⟩
    rw [varint_get.j1] at h
    simp -implicitDefEqProofs only [go_sem, seval, hi1]
    refine X_sr (lx_ok γ) ?_
    obtain ⟨x5, f10, h⟩ := bindE h
    have f11 : ¬ (w64 (7 * (i1 : Int))) < 0 := of_decide_eq_true (chkB_some f10).1
    simp -implicitDefEqProofs only [go_sem, seval, hi1, f11]
    refine X_block ?_
    refine X_sr (lx_ok γ) ?_
    simp -implicitDefEqProofs only [go_sem, seval, hi1]
    cases f12 : (u8 (andW 8 x4 128) != 0)
    ·rw [if_neg (nF f12)] at h
     refine X_cond (lx_ok γ) ?_
     simp -implicitDefEqProofs only [go_sem, seval, hi1, f12]
     refine X_seq ?_
     refine X_jq (J := fun as1 ob1 => ∃ (x7 : Bool), varint_get.j2 x2 x4 x7 i1 = some o1 ∧ [(7, vint .u64 (u64 (orW 64 x2 (u64 (shlE (u64 (u8 (clrW 8 x4 128))) (w64 (7 * (i1 : Int))) 64))))), (8, vint .i64 (i1 : Int)), (45, vbool x7)] = as1 ∧ ob = ob1) ?_ ?_
     ·rintro as1 ob1 ⟨x7, h, rfl, rfl⟩
      rw [varint_get.j2] at h
      simp -implicitDefEqProofs only [go_sem, seval, hi1, f12]
      cases f13 : x7
      ·rw [if_neg (nF f13)] at h
       refine X_cond (lx_ok γ) ?_
       simp -implicitDefEqProofs only [go_sem, seval, hi1, f12, f13]
       refine X_sr (lx_ok γ) ?_
       simp -implicitDefEqProofs only [go_sem, seval, hi1, f12, f13]
       obtain rfl := sI h
       have h := hr1 _ (ho1 (fun _ hs => nomatch hs))
       obtain rfl := sI h
       refine X_ret ?_
       simp -implicitDefEqProofs only [go_sem, seval, hi1, f12, f13]
       exact Rt.mv1 (BaseR.refl hob) (by simp) (VM.tup ⟨vS, vS, vS, trivial⟩)
      ·rw [if_pos f13] at h
       refine X_cond (lx_ok γ) ?_
       simp -implicitDefEqProofs only [go_sem, seval, hi1, f12, f13]
       refine X_sr (lx_ok γ) ?_
       simp -implicitDefEqProofs only [go_sem, seval, hi1, f12, f13]
       obtain rfl := sI h
       have h := hr1 _ (ho1 (fun _ hs => nomatch hs))
       obtain rfl := sI h
       refine X_ret ?_
       simp -implicitDefEqProofs only [go_sem, seval, hi1, f12, f13]
       exact Rt.mv1 (BaseR.refl hob) (by simp) (VM.tup ⟨vS, vS, vS, trivial⟩)
     ·refine X_reg (lx_ok γ) ?_
      cases f14 : (x4 == 0)
      ·rw [if_neg (nF f14)] at h
       simp -implicitDefEqProofs only [go_sem, seval, hi1, f12, f14]
       refine kJ_in ?_ ⟨false, h, rfl, rfl⟩
       exact To.mv1 (BaseR.refl hob) (by simp) (by simp only [go_sem]; exact ⟨vS, vS, vS⟩)
      ·rw [if_pos f14] at h
       simp -implicitDefEqProofs only [go_sem, seval, hi1, f12, f14]
       refine kJ_in ?_ ⟨(decide (0 < (i1 : Int))), h, rfl, rfl⟩
       exact To.mv1 (BaseR.refl hob) (by simp) (by simp only [go_sem]; exact ⟨vS, vS, vS⟩)
    ·rw [if_pos f12] at h
     refine X_cond (lx_ok γ) ?_
     simp -implicitDefEqProofs only [go_sem, seval, hi1, f12]
     refine X_skip ?_
     try simp -implicitDefEqProofs only [go_sem]
     refine X_reg (lx_ok γ) ?_
     obtain rfl := sI h
     simp -implicitDefEqProofs only [go_sem, seval, hi1, f12]
     refine kR_in rfl ?_ ⟨rfl, rfl⟩
     exact To.mv1 (BaseR.refl hob) (by simp) (by simp only [go_sem]; exact ⟨vS, vS, vS, vS, vS, VM.eqv (by rw [hw1]) (by simp)⟩)
   ·refine X_sr (lx_ok γ) ?_
    cases f15 : ((i1 : Int) == 9)
    ·rw [if_neg (nF f15)] at h
     simp -implicitDefEqProofs only [go_sem, seval, hi1, f15]
     refine X_condF (lx_ok γ) rfl ?_
     refine X_skip ?_
     try simp -implicitDefEqProofs only [go_sem]
     refine kJ_in ?_ ⟨h, rfl, rfl⟩
     exact To.mv1 (BaseR.refl hob) (by simp) (by simp only [go_sem]; exact ⟨vS, vS, vS, vS, vS, vS, vS, vS, vS⟩)
    ·rw [if_pos f15] at h
     simp -implicitDefEqProofs only [go_sem, seval, hi1, f15]
     cases f16 : decide (1 < u64 (u8 (clrW 8 x4 128)))
     ·rw [if_neg (nF f16)] at h
      refine X_cond (lx_ok γ) ?_
      simp -implicitDefEqProofs only [go_sem, seval, hi1, f15, f16]
      refine X_skip ?_
      try simp -implicitDefEqProofs only [go_sem]
      refine kJ_in ?_ ⟨h, rfl, rfl⟩
      exact To.mv1 (BaseR.refl hob) (by simp) (by simp only [go_sem]; exact ⟨vS, vS, vS, vS, vS, vS, vS, vS, vS⟩)
     ·rw [if_pos f16] at h
      refine X_cond (lx_ok γ) ?_
      simp -implicitDefEqProofs only [go_sem, seval, hi1, f15, f16]
      refine X_sr (lx_ok γ) ?_
      simp -implicitDefEqProofs only [go_sem, seval, hi1, f15, f16]
      obtain rfl := sI h
      have h := hr1 _ (ho1 (fun _ hs => nomatch hs))
      obtain rfl := sI h
      refine X_ret ?_
      simp -implicitDefEqProofs only [go_sem, seval, hi1, f15, f16]
      exact Rt.mv1 (BaseR.refl hob) (by simp) (VM.tup ⟨vS, vS, vS, trivial⟩)
  ·rintro i1 x2 hi1 hn1 as1 ob1 ⟨rfl, rfl⟩
   refine X_sr (lx_ok γ) ?_
   simp -implicitDefEqProofs only [go_sem, seval, hi1]
   refine X_seq ?_
   refine X_cond (lx_ok γ) ?_
   simp -implicitDefEqProofs only [go_sem, seval, hi1]
   have h := hk1 _ (.inl hn1)
   refine X_exit ?_
   try simp -implicitDefEqProofs only [go_sem, ↓reduceIte, Nat.reduceEqDiff, reduceCtorEq]
   refine kJ_in ?_ ⟨h, rfl, rfl⟩
   exact To.mv1 (BaseR.refl hob) (by simp) (by simp only [go_sem]; exact ⟨vS, vS⟩)
end Go.Pf
end
section
set_option maxRecDepth 100000
namespace Go.Pf
open Go Go.Ab Go.Pp Go.Proofs Go.Proofs.S04
attribute [local go_sem] Lxτ Lxγ gam0 Int.toNat_natCast tau3 tau5 tau45 tau118 eI eB eS e_Ins e_Block e_Func e_Prog e_code_writer e_code_reader e_Edge
set_option maxHeartbeats 1000000 in
theorem varint_Get_ok (γ : GT) (ob : OT) {a0 : List Int} {r : Int × Int × Int} (h : varint_Get a0 = some r) :
  Valid (Lx γ) 108 [V.tr (.sl 1 false (List.map (eI .u8) a0))] ob (V.tup [vint .i64 r.1, vint .i64 r.2.1, vint .i64 r.2.2]) ob := by
 refine valid_X (lx_ok γ) (fn := Tryd.f108) (rs := [.tmp 2, .tmp 3, .tmp 4]) Tryd.func108 (by kernel_rfl) rfl rfl Tryd.ntmps108 rfl (by simp) fun hb hob => ?_
 rw [varint_Get] at h
 refine X_sr (lx_ok γ) ?_
 simp -implicitDefEqProofs only [go_sem, seval]
 refine X_sr (lx_ok γ) ?_
 obtain ⟨x1, f1, h⟩ := bindE h
 simp -implicitDefEqProofs only [go_sem, seval]
 refine callV_eq (varint_get_ok γ _  f1) rfl rfl ?_
 simp -implicitDefEqProofs only [go_sem, seval]
 refine X_sr (lx_ok γ) ?_
 simp -implicitDefEqProofs only [go_sem, seval]
 obtain rfl := sI h
 refine X_ret ?_
 simp -implicitDefEqProofs only [go_sem, seval]
 exact Rt.mv1 (BaseR.refl hob) (by simp) (VM.tup ⟨vS, vS, vS, trivial⟩)
end Go.Pf
end
section
set_option maxRecDepth 100000
namespace Go.Pf
open Go Go.Ab Go.Pp Go.Proofs Go.Proofs.S04
attribute [local go_sem] Lxτ Lxγ gam0 Int.toNat_natCast tau5 tau32 tau45 tau74 tau76 tau124 eI eB eS e_Ins e_Block e_Func e_Prog e_code_writer e_code_reader e_Edge
set_option maxHeartbeats 1000000 in
theorem code_reader_number_ok (γ : GT) (ob : OT) {o0 : Nat} {a0 : code_reader} (hx0 : getO ob o0 = some (O.box [V.tr (.sl 1 false (List.map (eI .u8) a0.b)), vint .i64 a0.err])) {r : code_reader × Int} (h : code_reader_number a0 = some r) :
  Valid (Lx γ) 85 [V.ref o0 0] ob (vint .i64 r.2) (List.set ob o0 (some (O.box [V.tr (.sl 1 false (List.map (eI .u8) r.1.b)), vint .i64 r.1.err]))) := by
 refine valid_X (lx_ok γ) (fn := Tryd.f85) (rs := [.tmp 2]) Tryd.func85 (by kernel_rfl) rfl rfl Tryd.ntmps85 rfl (by simp) fun hb hob => ?_
 have hoa0 := getO_lt hx0
 refine X_ob (set_own hx0) ?_
 have hsA : ∀ (x : Option O) (l : OT), getO (List.set ob o0 x ++ l) o0 = x := fun _ _ => getO_selfA hoa0
 have hsB : ∀ (x : Option O), getO (List.set ob o0 x) o0 = x := fun _ => getO_self hoa0
 have hsC : ∀ (x y : Option O) (l : OT), List.set (List.set ob o0 x ++ l) o0 y = List.set ob o0 y ++ l := fun _ _ _ => set_selfA hoa0
 rw [code_reader_number] at h
 refine X_sr (lx_ok γ) ?_
 simp -implicitDefEqProofs only [go_sem, seval, hsA, hsB, hsC]
 refine X_sr (lx_ok γ) ?_
 obtain ⟨x1, f1, h⟩ := bindE h
 simp -implicitDefEqProofs only [go_sem, seval, hsA, hsB, hsC]
 refine callV_eq (code_reader_take_ok γ _ (by simp -implicitDefEqProofs only [go_sem, seval, hsA, hsB, hsC]; try rfl) (fun ob1 y0 r hx => by exact varint_Get_ok γ _  hx) f1) rfl rfl ?_
 simp -implicitDefEqProofs only [go_sem, seval, hsA, hsB, hsC]
 obtain rfl := sI h
 refine X_ret ?_
 simp -implicitDefEqProofs only [go_sem, seval, hsA, hsB, hsC]
 exact Rt.mv1 (BaseR.set hob (.box _ _ (by exact ⟨VLe.self (by simp [*]), VLe.self (by simp [*]), trivial⟩))) (by simp) (vS)
end Go.Pf
end
section
set_option maxRecDepth 100000
namespace Go.Pf
open Go Go.Ab Go.Pp Go.Proofs Go.Proofs.S04
attribute [local go_sem] Lxτ Lxγ gam0 Int.toNat_natCast tau3 tau5 tau32 tau45 tau74 tau76 eI eB eS e_Ins e_Block e_Func e_Prog e_code_writer e_code_reader e_Edge
set_option maxHeartbeats 1000000 in
theorem code_reader_within_ok (γ : GT) (ob : OT) {o0 : Nat} {a0 : code_reader} {a1 : Int} {a2 : Int} (hx0 : getO ob o0 = some (O.box [V.tr (.sl 1 false (List.map (eI .u8) a0.b)), vint .i64 a0.err])) {r : code_reader × Int} (h : code_reader_within a0 a1 a2 = some r) :
  Valid (Lx γ) 62 [V.ref o0 0, vint .i64 a1, vint .i64 a2] ob (vint .i64 r.2) (List.set ob o0 (some (O.box [V.tr (.sl 1 false (List.map (eI .u8) r.1.b)), vint .i64 r.1.err]))) := by
 refine valid_X (lx_ok γ) (fn := Tryd.f62) (rs := [.tmp 6]) Tryd.func62 (by kernel_rfl) rfl rfl Tryd.ntmps62 rfl (by simp) fun hb hob => ?_
 have hoa0 := getO_lt hx0
 refine X_ob (set_own hx0) ?_
 have hsA : ∀ (x : Option O) (l : OT), getO (List.set ob o0 x ++ l) o0 = x := fun _ _ => getO_selfA hoa0
 have hsB : ∀ (x : Option O), getO (List.set ob o0 x) o0 = x := fun _ => getO_self hoa0
 have hsC : ∀ (x y : Option O) (l : OT), List.set (List.set ob o0 x ++ l) o0 y = List.set ob o0 y ++ l := fun _ _ _ => set_selfA hoa0
 rw [code_reader_within] at h
 refine X_sr (lx_ok γ) ?_
 simp -implicitDefEqProofs only [go_sem, seval, hsA, hsB, hsC]
 refine X_sr (lx_ok γ) ?_
 obtain ⟨x1, f1, h⟩ := bindE h
 simp -implicitDefEqProofs only [go_sem, seval, hsA, hsB, hsC]
 refine callV_eq (code_reader_number_ok γ _ (by simp -implicitDefEqProofs only [go_sem, seval, hsA, hsB, hsC]; try rfl) f1) rfl rfl ?_
 simp -implicitDefEqProofs only [go_sem, seval, hsA, hsB, hsC]
 refine X_seq ?_
 refine X_jq (J := fun as1 ob1 => ∃ (x2 : Int), code_reader_within.j1 x1 x2 = some r ∧ [(0, V.ref o0 0), (7, vint .i64 x1.2)] = as1 ∧ (List.set ob o0 (some (O.box [V.tr (.sl 1 false (List.map (eI .u8) x1.1.b)), vint .i64 x2]))) = ob1) ?_ ?_
 ·rintro as1 ob1 ⟨x2, h, rfl, rfl⟩
  rw [code_reader_within.j1] at h
  simp -implicitDefEqProofs only [go_sem, seval, hsA, hsB, hsC]
  refine X_seq ?_
  refine X_sr (lx_ok γ) ?_
  simp -implicitDefEqProofs only [go_sem, seval, hsA, hsB, hsC]
  cases f2 : (x2 != 0)
  ·rw [if_neg (nF f2)] at h
   refine X_cond (lx_ok γ) ?_
   simp -implicitDefEqProofs only [go_sem, seval, f2, hsA, hsB, hsC]
   refine X_skip ?_
   try simp -implicitDefEqProofs only [go_sem]
   refine X_sr (lx_ok γ) ?_
   simp -implicitDefEqProofs only [go_sem, seval, f2, hsA, hsB, hsC]
   obtain rfl := sI h
   refine X_ret ?_
   simp -implicitDefEqProofs only [go_sem, seval, f2, hsA, hsB, hsC]
   exact Rt.mv1 (BaseR.set hob (.box _ _ (by exact ⟨VLe.self (by simp [*]), VLe.self (by simp [*]), trivial⟩))) (by simp) (vS)
  ·rw [if_pos f2] at h
   refine X_cond (lx_ok γ) ?_
   simp -implicitDefEqProofs only [go_sem, seval, f2, hsA, hsB, hsC]
   refine X_sr (lx_ok γ) ?_
   simp -implicitDefEqProofs only [go_sem, seval, f2, hsA, hsB, hsC]
   obtain rfl := sI h
   refine X_ret ?_
   simp -implicitDefEqProofs only [go_sem, seval, f2, hsA, hsB, hsC]
   exact Rt.mv1 (BaseR.set hob (.box _ _ (by exact ⟨VLe.self (by simp [*]), VLe.self (by simp [*]), trivial⟩))) (by simp) (vS)
 ·refine X_sr (lx_ok γ) ?_
  simp -implicitDefEqProofs only [go_sem, seval, hsA, hsB, hsC]
  cases f3 : decide (a1 < x1.2)
  ·rw [if_neg (nF f3)] at h
   refine X_cond (lx_ok γ) ?_
   simp -implicitDefEqProofs only [go_sem, seval, f3, hsA, hsB, hsC]
   refine X_skip ?_
   try simp -implicitDefEqProofs only [go_sem]
   refine kJ_in ?_ ⟨x1.1.err, h, rfl, rfl⟩
   exact To.mv1 (BaseR.set hob (.box _ _ (by exact ⟨VLe.self (by simp [*]), VLe.self (by simp [*]), trivial⟩))) (by simp) (by simp only [go_sem]; exact ⟨VM.self (by simp [*]), vS⟩)
  ·rw [if_pos f3] at h
   refine X_cond (lx_ok γ) ?_
   simp -implicitDefEqProofs only [go_sem, seval, f3, hsA, hsB, hsC]
   refine X_reg (lx_ok γ) ?_
   simp -implicitDefEqProofs only [go_sem, seval, f3, hsA, hsB, hsC]
   refine kJ_in ?_ ⟨a2, h, rfl, rfl⟩
   exact To.mv1 (BaseR.set hob (.box _ _ (by exact ⟨VLe.self (by simp [*]), VLe.self (by simp [*]), trivial⟩))) (by simp) (by simp only [go_sem]; exact ⟨VM.self (by simp [*]), vS⟩)
end Go.Pf
end
section
set_option maxRecDepth 100000
namespace Go.Pf
open Go Go.Ab Go.Pp Go.Proofs Go.Proofs.S04
attribute [local go_sem] Lxτ Lxγ gam0 Int.toNat_natCast tau3 tau5 tau45 tau118 eI eB eS e_Ins e_Block e_Func e_Prog e_code_writer e_code_reader e_Edge
set_option maxHeartbeats 1000000 in
theorem varint_GetSigned_ok (γ : GT) (ob : OT) {a0 : List Int} {r : Int × Int × Int} (h : varint_GetSigned a0 = some r) :
  Valid (Lx γ) 109 [V.tr (.sl 1 false (List.map (eI .u8) a0))] ob (V.tup [vint .i64 r.1, vint .i64 r.2.1, vint .i64 r.2.2]) ob := by
 refine valid_X (lx_ok γ) (fn := Tryd.f109) (rs := [.tmp 2, .tmp 3, .tmp 4]) Tryd.func109 (by kernel_rfl) rfl rfl Tryd.ntmps109 rfl (by simp) fun hb hob => ?_
 rw [varint_GetSigned] at h
 refine X_sr (lx_ok γ) ?_
 simp -implicitDefEqProofs only [go_sem, seval]
 refine X_sr (lx_ok γ) ?_
 obtain ⟨x1, f1, h⟩ := bindE h
 simp -implicitDefEqProofs only [go_sem, seval]
 refine callV_eq (varint_get_ok γ _  f1) rfl rfl ?_
 simp -implicitDefEqProofs only [go_sem, seval]
 refine X_sr (lx_ok γ) ?_
 simp -implicitDefEqProofs only [go_sem, seval]
 obtain rfl := sI h
 refine X_ret ?_
 simp -implicitDefEqProofs only [go_sem, seval]
 exact Rt.mv1 (BaseR.refl hob) (by simp) (VM.tup ⟨vS, vS, vS, trivial⟩)
end Go.Pf
end
section
set_option maxRecDepth 100000
namespace Go.Pf
open Go Go.Ab Go.Pp Go.Proofs Go.Proofs.S04
attribute [local go_sem] Lxτ Lxγ gam0 Int.toNat_natCast tau3 tau5 tau9 tau28 tau32 tau35 tau45 tau74 tau76 tau122 tau124 eI eB eS e_Ins e_Block e_Func e_Prog e_code_writer e_code_reader e_Edge
set_option maxHeartbeats 1000000 in
theorem code_reader_ins_ok (γ : GT) (ob : OT) {o0 : Nat} {a0 : code_reader} (hx0 : getO ob o0 = some (O.box [V.tr (.sl 1 false (List.map (eI .u8) a0.b)), vint .i64 a0.err])) {r : code_reader × Ins} (h : code_reader_ins a0 = some r) :
  Valid (Lx γ) 86 [V.ref o0 0] ob (V.agg [vint .i64 r.2.Op, vint .i64 r.2.D, vint .i64 r.2.A, vint .i64 r.2.B, vint .i64 r.2.N, vint .i64 r.2.M, V.row ob.length 0 0 (List.length r.2.Args)]) ((List.set ob o0 (some (O.box [V.tr (.sl 1 false (List.map (eI .u8) r.1.b)), vint .i64 r.1.err]))) ++ [some (O.row 1 0 (List.map (eI .i64) r.2.Args))]) := by
 refine valid_X (lx_ok γ) (fn := Tryd.f86) (rs := [.cell 2 35]) Tryd.func86 (by kernel_rfl) rfl rfl Tryd.ntmps86 rfl (by simp) fun hb hob => ?_
 have hoa0 := getO_lt hx0
 refine X_ob (set_own hx0) ?_
 have hsA : ∀ (x : Option O) (l : OT), getO (List.set ob o0 x ++ l) o0 = x := fun _ _ => getO_selfA hoa0
 have hsB : ∀ (x : Option O), getO (List.set ob o0 x) o0 = x := fun _ => getO_self hoa0
 have hsC : ∀ (x y : Option O) (l : OT), List.set (List.set ob o0 x ++ l) o0 y = List.set ob o0 y ++ l := fun _ _ _ => set_selfA hoa0
 rw [code_reader_ins] at h
 refine X_sr (lx_ok γ) ?_
 simp -implicitDefEqProofs only [go_sem, seval, hsA, hsB, hsC]
 refine X_sr (lx_ok γ) ?_
 obtain ⟨x1, f1, h⟩ := bindE h
 simp -implicitDefEqProofs only [go_sem, seval, hsA, hsB, hsC]
 refine callV_eq (code_reader_number_ok γ _ (by simp -implicitDefEqProofs only [go_sem, seval, hsA, hsB, hsC]; try rfl) f1) rfl rfl ?_
 simp -implicitDefEqProofs only [go_sem, seval, hsA, hsB, hsC]
 refine X_sr (lx_ok γ) ?_
 obtain ⟨x2, f2, h⟩ := bindE h
 simp -implicitDefEqProofs only [go_sem, seval, hsA, hsB, hsC]
 refine callV_eq (code_Parts_ok γ _  f2) rfl rfl ?_
 simp -implicitDefEqProofs only [go_sem, seval, hsA, hsB, hsC]
 refine X_seq ?_
 refine X_jq (J := fun as1 ob1 => ∃ (x3 : Int), code_reader_ins.j1 x1 x2 x3 = some r ∧ [(0, V.ref o0 0), (2, V.ref ob.length 0), (3, V.ref (ob.length + 1) 0), (4, vstr x2)] = as1 ∧ (List.set ob o0 (some (O.box [V.tr (.sl 1 false (List.map (eI .u8) x1.1.b)), vint .i64 x3]))) ++ [some (O.box [vint .i64 0, vint .i64 0, vint .i64 0, vint .i64 0, vint .i64 0, vint .i64 0, V.tr (.sl 0 true [])]), some (O.box [vint .i64 x1.2, vint .i64 0, vint .i64 0, vint .i64 0, vint .i64 0, vint .i64 0, V.tr (.sl 0 true [])])] = ob1) ?_ ?_
 ·rintro as1 ob1 ⟨x3, h, rfl, rfl⟩
  rw [code_reader_ins.j1] at h
  simp -implicitDefEqProofs only [go_sem, seval, hsA, hsB, hsC]
  refine X_seq ?_
  refine X_sr (lx_ok γ) ?_
  simp -implicitDefEqProofs only [go_sem, seval, hsA, hsB, hsC]
  refine X_jq (J := fun as1 ob1 => ∃ (x4 : List Int) (x5 : Int) (x6 : Int) (x7 : Int) (x8 : Int) (x9 : Int) (x10 : List Int) (x11 : Int), code_reader_ins.k1 x1 x4 x5 x6 x7 x8 x9 x10 x11 = some r ∧ [(2, V.ref ob.length 0), (3, V.ref (ob.length + 1) 0)] = as1 ∧ (List.set ob o0 (some (O.box [V.tr (.sl 1 false (List.map (eI .u8) x10)), vint .i64 x11]))) ++ [some (O.box [vint .i64 0, vint .i64 0, vint .i64 0, vint .i64 0, vint .i64 0, vint .i64 0, V.tr (.sl 0 true [])]), some (O.box [vint .i64 x1.2, vint .i64 x5, vint .i64 x6, vint .i64 x7, vint .i64 x8, vint .i64 x9, V.row (ob.length + 2) 0 0 (List.length x4)]), some (O.row 1 0 (List.map (eI .i64) x4))] = ob1) ?_ ?_
  ·rintro as1 ob1 ⟨x4, x5, x6, x7, x8, x9, x10, x11, h, rfl, rfl⟩
   rw [code_reader_ins.k1] at h
   simp -implicitDefEqProofs only [go_sem, seval, hsA, hsB, hsC]
   refine X_sr (lx_ok γ) ?_
   simp -implicitDefEqProofs only [go_sem, seval, hsA, hsB, hsC]
   obtain rfl := sI h
   refine X_ret ?_
   simp -implicitDefEqProofs only [go_sem, seval, hsA, hsB, hsC]
   exact Rt.mv [(2, 0)] (BaseR.set hob (.box _ _ (by exact ⟨VLe.self (by simp [*]), VLe.self (by simp [*]), trivial⟩))) (by simp) (by decide) (VM.agg ⟨vS, vS, vS, vS, vS, vS, VM.rowL (j := 2) (t := 0) rfl (by first | rfl | simp | simp_all | omega), trivial⟩) ⟨⟨_, rfl, OM.row' (by first | rfl | simp_all)⟩, trivial⟩
  ·refine X_block ?_
   obtain ⟨lr1, hl1, hk1, hr1⟩ := aft2 h
   refine X_forN hl1 (fun (i1 : Nat) (s : (List Int) × Int × Int × Int × Int × Int × (List Int) × Int) as1 ob1 => [(0, V.ref o0 0), (2, V.ref ob.length 0), (3, V.ref (ob.length + 1) 0), (4, vstr x2), (26, vint .i64 (ByteArray.size x2 : Int)), (27, vint .i64 (i1 : Int))] = as1 ∧ (List.set ob o0 (some (O.box [V.tr (.sl 1 false (List.map (eI .u8) s.2.2.2.2.2.2.1)), vint .i64 s.2.2.2.2.2.2.2]))) ++ [some (O.box [vint .i64 0, vint .i64 0, vint .i64 0, vint .i64 0, vint .i64 0, vint .i64 0, V.tr (.sl 0 true [])]), some (O.box [vint .i64 x1.2, vint .i64 s.2.1, vint .i64 s.2.2.1, vint .i64 s.2.2.2.1, vint .i64 s.2.2.2.2.1, vint .i64 s.2.2.2.2.2.1, V.row (ob.length + 2) 0 0 (List.length s.1)]), some (O.row 1 0 (List.map (eI .i64) s.1))] = ob1) ⟨_, _, ?_, rfl, rfl⟩ ?_ ?_
   ·exact To.trans (To.gh (as' := [(0, _), (2, _), (3, _), (4, _), (26, _), (27, _)]) (l' := [some (O.box [_, _, _, _, _, _, _]), some (O.box [_, _, _, _, _, _, V.row (ob.length + 2) 0 0 0])]) 1 ⟨VG.refl _ _ _, VG.refl _ _ _, VG.refl _ _ _, VG.refl _ _ _, VG.refl _ _ _, VG.refl _ _ _, trivial⟩ ⟨Or.inl rfl, Or.inr ⟨_, _, rfl, rfl, .box _ _ ⟨VG.refl _ _ _, VG.refl _ _ _, VG.refl _ _ _, VG.refl _ _ _, VG.refl _ _ _, VG.refl _ _ _, VG.nilL, trivial⟩⟩, trivial⟩) (To.mv [(0, 0), (1, 0), (2, 0)] (BaseR.set hob (.box _ _ (by exact ⟨VLe.self (by simp [*]), VLe.self (by simp [*]), trivial⟩))) (by simp) (by decide) (by simp only [go_sem]; exact ⟨VM.self (by simp [*]), VM.refA (j := 0) (t := 0) rfl, VM.refA (j := 1) (t := 1) rfl, vS, vS, VM.eqv (by simp) (by simp)⟩) ⟨⟨_, rfl, OM.box _ _ ⟨vS, vS, vS, vS, vS, vS, vS, trivial⟩⟩, ⟨_, rfl, OM.box _ _ ⟨vS, vS, vS, vS, vS, vS, VM.rowL (j := 2) (t := 2) rfl (by simp), trivial⟩⟩, ⟨_, rfl, OM.row' rfl⟩, trivial⟩)
   ·rintro i1 ⟨x4, x5, x6, x7, x8, x9, x10, x11⟩ o1 hi1 hw1 h ho1 as1 ob1 ⟨rfl, rfl⟩
    rw [code_reader_ins.b1] at h
    refine X_sr (lx_ok γ) ?_
    simp -implicitDefEqProofs only [go_sem, seval, hi1, hsA, hsB, hsC]
    refine X_seq ?_
    refine X_cond (lx_ok γ) ?_
    simp -implicitDefEqProofs only [go_sem, seval, hi1, hsA, hsB, hsC]
    refine X_skip ?_
    try simp -implicitDefEqProofs only [go_sem]
    refine X_seq ?_
    refine X_block ?_
    refine X_sr (lx_ok γ) ?_
    simp -implicitDefEqProofs only [go_sem, seval, hi1, hsA, hsB, hsC]
    refine X_sr (lx_ok γ) ?_
    obtain ⟨x13, f3, h⟩ := bindE h
    obtain ⟨f4, f5, f6, f7⟩ := ixS_some f3
    try simp only [Int.toNat_natCast, Int.reduceToNat] at f6
    replace f7 := f7.symm
    simp -implicitDefEqProofs only [go_sem, seval, hi1, hsA, hsB, hsC, f4, f6, f7]
    refine X_sr (lx_ok γ) ?_
    simp -implicitDefEqProofs only [go_sem, seval, hi1, hsA, hsB, hsC]
    refine X_block ?_
    refine X_sr (lx_ok γ) ?_
    simp -implicitDefEqProofs only [go_sem, seval, hi1, hsA, hsB, hsC]
    cases f8 : (x13 == 110)
    ·rw [if_neg (nF f8)] at h
     refine X_cond (lx_ok γ) ?_
     simp -implicitDefEqProofs only [go_sem, seval, hi1, f8, hsA, hsB, hsC]
     refine X_sr (lx_ok γ) ?_
     simp -implicitDefEqProofs only [go_sem, seval, hi1, f8, hsA, hsB, hsC]
     cases f9 : (x13 == 76)
     ·rw [if_neg (nF f9)] at h
      refine X_cond (lx_ok γ) ?_
      simp -implicitDefEqProofs only [go_sem, seval, hi1, f8, f9, hsA, hsB, hsC]
      refine X_reg (lx_ok γ) ?_
      cases f10 : (x13 == 68)
      ·rw [if_neg (nF f10)] at h
       cases f11 : (x13 == 65)
       ·rw [if_neg (nF f11)] at h
        cases f12 : (x13 == 66)
        ·rw [if_neg (nF f12)] at h
         cases f13 : (x13 == 77)
         ·rw [if_neg (nF f13)] at h
          have f14 : code_field (Ins.mk x1.2 x5 x6 x7 x8 x9 x4) x13 = some 4 := by simp only [code_field, hi1, f8, f9, f10, f11, f12, f13, if_true, if_false, Bool.false_eq_true]
          simp -implicitDefEqProofs only [go_sem, seval, hi1, f8, f9, f10, f11, f12, f13, hsA, hsB, hsC]
          refine callV_eq (code_field_ok γ _ (by simp -implicitDefEqProofs only [go_sem, seval, hi1, f8, f9, hsA, hsB, hsC]; try rfl) f14) rfl rfl ?_
          obtain ⟨x14, f15, h⟩ := bindE h
          simp -implicitDefEqProofs only [go_sem, seval, hi1, f8, f9, f10, f11, f12, f13, hsA, hsB, hsC]
          refine callV_eq (code_reader_number_ok γ _ (by simp -implicitDefEqProofs only [go_sem, seval, hi1, f8, f9, f10, f11, f12, f13, hsA, hsB, hsC]; try rfl) f15) rfl rfl ?_
          simp -implicitDefEqProofs only [go_sem, seval, hi1, f8, f9, f10, f11, f12, f13, hsA, hsB, hsC]
          refine X_reg (lx_ok γ) ?_
          obtain rfl := sI h
          simp -implicitDefEqProofs only [go_sem, seval, hi1, f8, f9, f10, f11, f12, f13, hsA, hsB, hsC]
          refine kR_in rfl ?_ ⟨rfl, rfl⟩
          exact To.mv [(0, 0), (1, 0), (2, 0)] (BaseR.set hob (.box _ _ (by exact ⟨VLe.self (by simp [*]), VLe.self (by simp [*]), trivial⟩))) (by simp) (by decide) (by simp only [go_sem]; exact ⟨VM.self (by simp [*]), VM.refA (j := 0) (t := 0) rfl, VM.refA (j := 1) (t := 1) rfl, vS, vS, VM.eqv (by rw [hw1]) (by simp)⟩) ⟨⟨_, rfl, OM.box _ _ ⟨vS, vS, vS, vS, vS, vS, vS, trivial⟩⟩, ⟨_, rfl, OM.box _ _ ⟨vS, vS, vS, vS, vS, vS, VM.rowL (j := 2) (t := 2) rfl (by first | rfl | simp | simp_all | omega), trivial⟩⟩, ⟨_, rfl, OM.row' (by first | rfl | simp_all)⟩, trivial⟩
         ·rw [if_pos f13] at h
          have f16 : code_field (Ins.mk x1.2 x5 x6 x7 x8 x9 x4) x13 = some 5 := by simp only [code_field, hi1, f8, f9, f10, f11, f12, f13, if_true, if_false, Bool.false_eq_true]
          simp -implicitDefEqProofs only [go_sem, seval, hi1, f8, f9, f10, f11, f12, f13, hsA, hsB, hsC]
          refine callV_eq (code_field_ok γ _ (by simp -implicitDefEqProofs only [go_sem, seval, hi1, f8, f9, hsA, hsB, hsC]; try rfl) f16) rfl rfl ?_
          obtain ⟨x15, f17, h⟩ := bindE h
          simp -implicitDefEqProofs only [go_sem, seval, hi1, f8, f9, f10, f11, f12, f13, hsA, hsB, hsC]
          refine callV_eq (code_reader_number_ok γ _ (by simp -implicitDefEqProofs only [go_sem, seval, hi1, f8, f9, f10, f11, f12, f13, hsA, hsB, hsC]; try rfl) f17) rfl rfl ?_
          simp -implicitDefEqProofs only [go_sem, seval, hi1, f8, f9, f10, f11, f12, f13, hsA, hsB, hsC]
          refine X_reg (lx_ok γ) ?_
          obtain rfl := sI h
          simp -implicitDefEqProofs only [go_sem, seval, hi1, f8, f9, f10, f11, f12, f13, hsA, hsB, hsC]
          refine kR_in rfl ?_ ⟨rfl, rfl⟩
          exact To.mv [(0, 0), (1, 0), (2, 0)] (BaseR.set hob (.box _ _ (by exact ⟨VLe.self (by simp [*]), VLe.self (by simp [*]), trivial⟩))) (by simp) (by decide) (by simp only [go_sem]; exact ⟨VM.self (by simp [*]), VM.refA (j := 0) (t := 0) rfl, VM.refA (j := 1) (t := 1) rfl, vS, vS, VM.eqv (by rw [hw1]) (by simp)⟩) ⟨⟨_, rfl, OM.box _ _ ⟨vS, vS, vS, vS, vS, vS, vS, trivial⟩⟩, ⟨_, rfl, OM.box _ _ ⟨vS, vS, vS, vS, vS, vS, VM.rowL (j := 2) (t := 2) rfl (by first | rfl | simp | simp_all | omega), trivial⟩⟩, ⟨_, rfl, OM.row' (by first | rfl | simp_all)⟩, trivial⟩
        ·rw [if_pos f12] at h
         have f18 : code_field (Ins.mk x1.2 x5 x6 x7 x8 x9 x4) x13 = some 3 := by simp only [code_field, hi1, f8, f9, f10, f11, f12, if_true, if_false, Bool.false_eq_true]
         simp -implicitDefEqProofs only [go_sem, seval, hi1, f8, f9, f10, f11, f12, hsA, hsB, hsC]
         refine callV_eq (code_field_ok γ _ (by simp -implicitDefEqProofs only [go_sem, seval, hi1, f8, f9, hsA, hsB, hsC]; try rfl) f18) rfl rfl ?_
         obtain ⟨x16, f19, h⟩ := bindE h
         simp -implicitDefEqProofs only [go_sem, seval, hi1, f8, f9, f10, f11, f12, hsA, hsB, hsC]
         refine callV_eq (code_reader_number_ok γ _ (by simp -implicitDefEqProofs only [go_sem, seval, hi1, f8, f9, f10, f11, f12, hsA, hsB, hsC]; try rfl) f19) rfl rfl ?_
         simp -implicitDefEqProofs only [go_sem, seval, hi1, f8, f9, f10, f11, f12, hsA, hsB, hsC]
         refine X_reg (lx_ok γ) ?_
         obtain rfl := sI h
         simp -implicitDefEqProofs only [go_sem, seval, hi1, f8, f9, f10, f11, f12, hsA, hsB, hsC]
         refine kR_in rfl ?_ ⟨rfl, rfl⟩
         exact To.mv [(0, 0), (1, 0), (2, 0)] (BaseR.set hob (.box _ _ (by exact ⟨VLe.self (by simp [*]), VLe.self (by simp [*]), trivial⟩))) (by simp) (by decide) (by simp only [go_sem]; exact ⟨VM.self (by simp [*]), VM.refA (j := 0) (t := 0) rfl, VM.refA (j := 1) (t := 1) rfl, vS, vS, VM.eqv (by rw [hw1]) (by simp)⟩) ⟨⟨_, rfl, OM.box _ _ ⟨vS, vS, vS, vS, vS, vS, vS, trivial⟩⟩, ⟨_, rfl, OM.box _ _ ⟨vS, vS, vS, vS, vS, vS, VM.rowL (j := 2) (t := 2) rfl (by first | rfl | simp | simp_all | omega), trivial⟩⟩, ⟨_, rfl, OM.row' (by first | rfl | simp_all)⟩, trivial⟩
       ·rw [if_pos f11] at h
        have f20 : code_field (Ins.mk x1.2 x5 x6 x7 x8 x9 x4) x13 = some 2 := by simp only [code_field, hi1, f8, f9, f10, f11, if_true, if_false, Bool.false_eq_true]
        simp -implicitDefEqProofs only [go_sem, seval, hi1, f8, f9, f10, f11, hsA, hsB, hsC]
        refine callV_eq (code_field_ok γ _ (by simp -implicitDefEqProofs only [go_sem, seval, hi1, f8, f9, hsA, hsB, hsC]; try rfl) f20) rfl rfl ?_
        obtain ⟨x17, f21, h⟩ := bindE h
        simp -implicitDefEqProofs only [go_sem, seval, hi1, f8, f9, f10, f11, hsA, hsB, hsC]
        refine callV_eq (code_reader_number_ok γ _ (by simp -implicitDefEqProofs only [go_sem, seval, hi1, f8, f9, f10, f11, hsA, hsB, hsC]; try rfl) f21) rfl rfl ?_
        simp -implicitDefEqProofs only [go_sem, seval, hi1, f8, f9, f10, f11, hsA, hsB, hsC]
        refine X_reg (lx_ok γ) ?_
        obtain rfl := sI h
        simp -implicitDefEqProofs only [go_sem, seval, hi1, f8, f9, f10, f11, hsA, hsB, hsC]
        refine kR_in rfl ?_ ⟨rfl, rfl⟩
        exact To.mv [(0, 0), (1, 0), (2, 0)] (BaseR.set hob (.box _ _ (by exact ⟨VLe.self (by simp [*]), VLe.self (by simp [*]), trivial⟩))) (by simp) (by decide) (by simp only [go_sem]; exact ⟨VM.self (by simp [*]), VM.refA (j := 0) (t := 0) rfl, VM.refA (j := 1) (t := 1) rfl, vS, vS, VM.eqv (by rw [hw1]) (by simp)⟩) ⟨⟨_, rfl, OM.box _ _ ⟨vS, vS, vS, vS, vS, vS, vS, trivial⟩⟩, ⟨_, rfl, OM.box _ _ ⟨vS, vS, vS, vS, vS, vS, VM.rowL (j := 2) (t := 2) rfl (by first | rfl | simp | simp_all | omega), trivial⟩⟩, ⟨_, rfl, OM.row' (by first | rfl | simp_all)⟩, trivial⟩
      ·rw [if_pos f10] at h
       have f22 : code_field (Ins.mk x1.2 x5 x6 x7 x8 x9 x4) x13 = some 1 := by simp only [code_field, hi1, f8, f9, f10, if_true, if_false, Bool.false_eq_true]
       simp -implicitDefEqProofs only [go_sem, seval, hi1, f8, f9, f10, hsA, hsB, hsC]
       refine callV_eq (code_field_ok γ _ (by simp -implicitDefEqProofs only [go_sem, seval, hi1, f8, f9, hsA, hsB, hsC]; try rfl) f22) rfl rfl ?_
       obtain ⟨x18, f23, h⟩ := bindE h
       simp -implicitDefEqProofs only [go_sem, seval, hi1, f8, f9, f10, hsA, hsB, hsC]
       refine callV_eq (code_reader_number_ok γ _ (by simp -implicitDefEqProofs only [go_sem, seval, hi1, f8, f9, f10, hsA, hsB, hsC]; try rfl) f23) rfl rfl ?_
       simp -implicitDefEqProofs only [go_sem, seval, hi1, f8, f9, f10, hsA, hsB, hsC]
       refine X_reg (lx_ok γ) ?_
       obtain rfl := sI h
       simp -implicitDefEqProofs only [go_sem, seval, hi1, f8, f9, f10, hsA, hsB, hsC]
       refine kR_in rfl ?_ ⟨rfl, rfl⟩
       exact To.mv [(0, 0), (1, 0), (2, 0)] (BaseR.set hob (.box _ _ (by exact ⟨VLe.self (by simp [*]), VLe.self (by simp [*]), trivial⟩))) (by simp) (by decide) (by simp only [go_sem]; exact ⟨VM.self (by simp [*]), VM.refA (j := 0) (t := 0) rfl, VM.refA (j := 1) (t := 1) rfl, vS, vS, VM.eqv (by rw [hw1]) (by simp)⟩) ⟨⟨_, rfl, OM.box _ _ ⟨vS, vS, vS, vS, vS, vS, vS, trivial⟩⟩, ⟨_, rfl, OM.box _ _ ⟨vS, vS, vS, vS, vS, vS, VM.rowL (j := 2) (t := 2) rfl (by first | rfl | simp | simp_all | omega), trivial⟩⟩, ⟨_, rfl, OM.row' (by first | rfl | simp_all)⟩, trivial⟩
     ·rw [if_pos f9] at h
      refine X_cond (lx_ok γ) ?_
      simp -implicitDefEqProofs only [go_sem, seval, hi1, f8, f9, hsA, hsB, hsC]
      refine X_sr (lx_ok γ) ?_
      obtain ⟨x19, f24, h⟩ := bindE h
      simp -implicitDefEqProofs only [go_sem, seval, hi1, f8, f9, hsA, hsB, hsC]
      refine callV_eq (code_reader_within_ok γ _ (by simp -implicitDefEqProofs only [go_sem, seval, hi1, f8, f9, hsA, hsB, hsC]; try rfl) f24) rfl rfl ?_
      simp -implicitDefEqProofs only [go_sem, seval, hi1, f8, f9, hsA, hsB, hsC]
      refine X_jq (J := fun as1 ob1 => ∃ (x20 : List Int) (x21 : List Int) (x22 : Int), code_reader_ins.k2 x5 x6 x7 x8 x9 x20 x21 x22 = some o1 ∧ [(0, V.ref o0 0), (2, V.ref ob.length 0), (3, V.ref (ob.length + 1) 0), (4, vstr x2), (26, vint .i64 (ByteArray.size x2 : Int)), (27, vint .i64 (i1 : Int))] = as1 ∧ (List.set ob o0 (some (O.box [V.tr (.sl 1 false (List.map (eI .u8) x21)), vint .i64 x22]))) ++ [some (O.box [vint .i64 0, vint .i64 0, vint .i64 0, vint .i64 0, vint .i64 0, vint .i64 0, V.tr (.sl 0 true [])]), some (O.box [vint .i64 x1.2, vint .i64 x5, vint .i64 x6, vint .i64 x7, vint .i64 x8, vint .i64 x9, V.row (ob.length + 2) 0 0 (List.length x20)]), some (O.row 1 0 (List.map (eI .i64) x20))] = ob1) ?_ ?_
      ·rintro as1 ob1 ⟨x20, x21, x22, h, rfl, rfl⟩
       rw [code_reader_ins.k2] at h
       simp -implicitDefEqProofs only [go_sem, seval, hi1, f8, f9, hsA, hsB, hsC]
       refine X_reg (lx_ok γ) ?_
       obtain rfl := sI h
       simp -implicitDefEqProofs only [go_sem, seval, hi1, f8, f9, hsA, hsB, hsC]
       refine kR_in rfl ?_ ⟨rfl, rfl⟩
       exact To.mv [(0, 0), (1, 0), (2, 0)] (BaseR.set hob (.box _ _ (by exact ⟨VLe.self (by simp [*]), VLe.self (by simp [*]), trivial⟩))) (by simp) (by decide) (by simp only [go_sem]; exact ⟨VM.self (by simp [*]), VM.refA (j := 0) (t := 0) rfl, VM.refA (j := 1) (t := 1) rfl, vS, vS, VM.eqv (by rw [hw1]) (by simp)⟩) ⟨⟨_, rfl, OM.box _ _ ⟨vS, vS, vS, vS, vS, vS, vS, trivial⟩⟩, ⟨_, rfl, OM.box _ _ ⟨vS, vS, vS, vS, vS, vS, VM.rowL (j := 2) (t := 2) rfl (by first | rfl | simp | simp_all | omega), trivial⟩⟩, ⟨_, rfl, OM.row' (by first | rfl | simp_all)⟩, trivial⟩
      ·refine X_block ?_
       obtain ⟨lr2, hl2, hk2, hr2⟩ := aft2 h
       refine X_forN hl2 (fun (i2 : Nat) (s : (List Int) × (List Int) × Int) as1 ob1 => [(0, V.ref o0 0), (2, V.ref ob.length 0), (3, V.ref (ob.length + 1) 0), (4, vstr x2), (26, vint .i64 (ByteArray.size x2 : Int)), (27, vint .i64 (i1 : Int)), (47, vint .i64 x19.2), (48, vint .i64 (i2 : Int))] = as1 ∧ (List.set ob o0 (some (O.box [V.tr (.sl 1 false (List.map (eI .u8) s.2.1)), vint .i64 s.2.2]))) ++ [some (O.box [vint .i64 0, vint .i64 0, vint .i64 0, vint .i64 0, vint .i64 0, vint .i64 0, V.tr (.sl 0 true [])]), some (O.box [vint .i64 x1.2, vint .i64 x5, vint .i64 x6, vint .i64 x7, vint .i64 x8, vint .i64 x9, V.row (ob.length + 2) 0 0 (List.length s.1)]), some (O.row 1 0 (List.map (eI .i64) s.1))] = ob1) ⟨_, _, ?_, rfl, rfl⟩ ?_ ?_
       ·exact To.mv [(0, 0), (1, 0), (2, 0)] (BaseR.set hob (.box _ _ (by exact ⟨VLe.self (by simp [*]), VLe.self (by simp [*]), trivial⟩))) (by simp) (by decide) (by simp only [go_sem]; exact ⟨VM.self (by simp [*]), VM.refA (j := 0) (t := 0) rfl, VM.refA (j := 1) (t := 1) rfl, vS, vS, vS, vS, VM.eqv (by simp) (by simp)⟩) ⟨⟨_, rfl, OM.box _ _ ⟨vS, vS, vS, vS, vS, vS, vS, trivial⟩⟩, ⟨_, rfl, OM.box _ _ ⟨vS, vS, vS, vS, vS, vS, VM.rowL (j := 2) (t := 2) rfl (by first | rfl | simp | simp_all | omega), trivial⟩⟩, ⟨_, rfl, OM.row' (by first | rfl | simp_all)⟩, trivial⟩
       ·rintro i2 ⟨x20, x21, x22⟩ o2 hi2 hw2 h ho2 as1 ob1 ⟨rfl, rfl⟩
        rw [code_reader_ins.b2] at h
        refine X_sr (lx_ok γ) ?_
        simp -implicitDefEqProofs only [go_sem, seval, hi1, f8, f9, hi2, hsA, hsB, hsC]
        refine X_seq ?_
        refine X_cond (lx_ok γ) ?_
        simp -implicitDefEqProofs only [go_sem, seval, hi1, f8, f9, hi2, hsA, hsB, hsC]
        refine X_skip ?_
        try simp -implicitDefEqProofs only [go_sem]
        refine X_seq ?_
        refine X_block ?_
        refine X_drawn (lx_ok γ) [[], [0], [], [2], [2, 3], [0, 1, 2, 3, 4], [0, 1, 2, 3, 4, 5], [0, 1, 2, 3, 4, 5, 6]] (fun i => match i with | 3 => true | 5 => true | 7 => true | _ => false) (by kernel_rfl) ?_
        obtain ⟨x24, f25, h⟩ := bindE h
        try simp -implicitDefEqProofs only [go_sem, seval, hi1, f8, f9, hi2, hsA, hsB, hsC, cmpr, List.getD_cons_zero, List.getD_cons_succ, List.contains_cons, List.contains_nil, Nat.reduceBEq, Bool.false_or, Bool.or_false, Bool.true_or, Bool.or_true, beq_self_eq_true]
        refine callV_eq (code_reader_number_ok γ _ (by simp -implicitDefEqProofs only [go_sem, seval, hi1, f8, f9, hi2, hsA, hsB, hsC]; try rfl) f25) rfl rfl ?_
        obtain ⟨x25, f26, h⟩ := bindE h
        have f27 : List.length x25 * 8 ≤ 140737488355328 := by have := (appL_some f26).1; rw [(appL_some f26).2]; simpa using this
        have f28 : List.map (eI .i64) x20 ++ [[.lit (.int .i64 x24.2)]] = List.map (eI .i64) x25 := by rw [(appL_some f26).2]; simp [eB, eI, eS]
        have f29 : List.length x20 + 1 = List.length x25 := by rw [(appL_some f26).2]; simp
        try simp -implicitDefEqProofs only [go_sem, seval, hi1, f8, f9, hi2, hsA, hsB, hsC, f27, f28, f29, cmpr, List.getD_cons_zero, List.getD_cons_succ, List.contains_cons, List.contains_nil, Nat.reduceBEq, Bool.false_or, Bool.or_false, Bool.true_or, Bool.or_true, beq_self_eq_true]
        refine X_reg (lx_ok γ) ?_
        obtain rfl := sI h
        simp -implicitDefEqProofs only [go_sem, seval, hi1, f8, f9, hi2, hsA, hsB, hsC]
        refine kR_in rfl ?_ ⟨rfl, rfl⟩
        exact To.mv [(0, 0), (1, 0), (2, 1)] (BaseR.set hob (.box _ _ (by exact ⟨VLe.self (by simp [*]), VLe.self (by simp [*]), trivial⟩))) (by simp) (by decide) (by simp only [go_sem]; exact ⟨VM.self (by simp [*]), VM.refA (j := 0) (t := 0) rfl, VM.refA (j := 1) (t := 1) rfl, vS, vS, vS, vS, VM.eqv (by rw [hw2]) (by simp)⟩) ⟨⟨_, rfl, OM.box _ _ ⟨vS, vS, vS, vS, vS, vS, vS, trivial⟩⟩, ⟨_, rfl, OM.box _ _ ⟨vS, vS, vS, vS, vS, vS, VM.rowL (j := 2) (t := 2) rfl (by first | rfl | simp | simp_all | omega), trivial⟩⟩, ⟨_, rfl, OM.row' (by first | rfl | simp_all)⟩, trivial⟩
       ·rintro i2 ⟨x20, x21, x22⟩ hi2 hn2 as1 ob1 ⟨rfl, rfl⟩
        refine X_sr (lx_ok γ) ?_
        simp -implicitDefEqProofs only [go_sem, seval, hi1, f8, f9, hi2, hsA, hsB, hsC]
        refine X_seq ?_
        refine X_cond (lx_ok γ) ?_
        simp -implicitDefEqProofs only [go_sem, seval, hi1, f8, f9, hi2, hsA, hsB, hsC]
        have h := hk2 _ (.inl hn2)
        refine X_exit ?_
        try simp -implicitDefEqProofs only [go_sem, ↓reduceIte, Nat.reduceEqDiff, reduceCtorEq]
        refine kJ_in ?_ ⟨x20, x21, x22, h, rfl, rfl⟩
        exact To.mv [(0, 0), (1, 0), (2, 0)] (BaseR.set hob (.box _ _ (by exact ⟨VLe.self (by simp [*]), VLe.self (by simp [*]), trivial⟩))) (by simp) (by decide) (by simp only [go_sem]; exact ⟨VM.self (by simp [*]), VM.refA (j := 0) (t := 0) rfl, VM.refA (j := 1) (t := 1) rfl, vS, vS, vS⟩) ⟨⟨_, rfl, OM.box _ _ ⟨vS, vS, vS, vS, vS, vS, vS, trivial⟩⟩, ⟨_, rfl, OM.box _ _ ⟨vS, vS, vS, vS, vS, vS, VM.rowL (j := 2) (t := 2) rfl (by first | rfl | simp | simp_all | omega), trivial⟩⟩, ⟨_, rfl, OM.row' (by first | rfl | simp_all)⟩, trivial⟩
    ·rw [if_pos f8] at h
     refine X_cond (lx_ok γ) ?_
     simp -implicitDefEqProofs only [go_sem, seval, hi1, f8, hsA, hsB, hsC]
     refine X_reg (lx_ok γ) ?_
     obtain ⟨x26, f30, h⟩ := bindE h
     simp -implicitDefEqProofs only [go_sem, seval, hi1, f8, hsA, hsB, hsC]
     refine callV_eq (code_reader_take_ok γ _ (by simp -implicitDefEqProofs only [go_sem, seval, hi1, f8, hsA, hsB, hsC]; try rfl) (fun ob1 y0 r hx => by exact varint_GetSigned_ok γ _  hx) f30) rfl rfl ?_
     simp -implicitDefEqProofs only [go_sem, seval, hi1, f8, hsA, hsB, hsC]
     refine X_reg (lx_ok γ) ?_
     obtain rfl := sI h
     simp -implicitDefEqProofs only [go_sem, seval, hi1, f8, hsA, hsB, hsC]
     refine kR_in rfl ?_ ⟨rfl, rfl⟩
     exact To.mv [(0, 0), (1, 0), (2, 0)] (BaseR.set hob (.box _ _ (by exact ⟨VLe.self (by simp [*]), VLe.self (by simp [*]), trivial⟩))) (by simp) (by decide) (by simp only [go_sem]; exact ⟨VM.self (by simp [*]), VM.refA (j := 0) (t := 0) rfl, VM.refA (j := 1) (t := 1) rfl, vS, vS, VM.eqv (by rw [hw1]) (by simp)⟩) ⟨⟨_, rfl, OM.box _ _ ⟨vS, vS, vS, vS, vS, vS, vS, trivial⟩⟩, ⟨_, rfl, OM.box _ _ ⟨vS, vS, vS, vS, vS, vS, VM.rowL (j := 2) (t := 2) rfl (by first | rfl | simp | simp_all | omega), trivial⟩⟩, ⟨_, rfl, OM.row' (by first | rfl | simp_all)⟩, trivial⟩
   ·rintro i1 ⟨x4, x5, x6, x7, x8, x9, x10, x11⟩ hi1 hn1 as1 ob1 ⟨rfl, rfl⟩
    refine X_sr (lx_ok γ) ?_
    simp -implicitDefEqProofs only [go_sem, seval, hi1, hsA, hsB, hsC]
    refine X_seq ?_
    refine X_cond (lx_ok γ) ?_
    simp -implicitDefEqProofs only [go_sem, seval, hi1, hsA, hsB, hsC]
    have h := hk1 _ (.inl hn1)
    refine X_exit ?_
    try simp -implicitDefEqProofs only [go_sem, ↓reduceIte, Nat.reduceEqDiff, reduceCtorEq]
    refine kJ_in ?_ ⟨x4, x5, x6, x7, x8, x9, x10, x11, h, rfl, rfl⟩
    exact To.mv [(0, 0), (1, 0), (2, 0)] (BaseR.set hob (.box _ _ (by exact ⟨VLe.self (by simp [*]), VLe.self (by simp [*]), trivial⟩))) (by simp) (by decide) (by simp only [go_sem]; exact ⟨VM.refA (j := 0) (t := 0) rfl, VM.refA (j := 1) (t := 1) rfl⟩) ⟨⟨_, rfl, OM.box _ _ ⟨vS, vS, vS, vS, vS, vS, vS, trivial⟩⟩, ⟨_, rfl, OM.box _ _ ⟨vS, vS, vS, vS, vS, vS, VM.rowL (j := 2) (t := 2) rfl (by first | rfl | simp | simp_all | omega), trivial⟩⟩, ⟨_, rfl, OM.row' (by first | rfl | simp_all)⟩, trivial⟩
 ·refine X_sr (lx_ok γ) ?_
  cases f31 : (ByteArray.toList x2 == ByteArray.toList ({ data := #[] } : ByteArray))
  ·rw [if_neg (nF f31)] at h
   simp -implicitDefEqProofs only [go_sem, seval, f31, hsA, hsB, hsC]
   refine X_condF (lx_ok γ) rfl ?_
   refine X_skip ?_
   try simp -implicitDefEqProofs only [go_sem]
   refine kJ_in ?_ ⟨x1.1.err, h, rfl, rfl⟩
   exact To.mv [(0, 0), (1, 0)] (BaseR.set hob (.box _ _ (by exact ⟨VLe.self (by simp [*]), VLe.self (by simp [*]), trivial⟩))) (by simp) (by decide) (by simp only [go_sem]; exact ⟨VM.self (by simp [*]), VM.refA (j := 0) (t := 0) rfl, VM.refA (j := 1) (t := 1) rfl, vS⟩) ⟨⟨_, rfl, OM.box _ _ ⟨vS, vS, vS, vS, vS, vS, vS, trivial⟩⟩, ⟨_, rfl, OM.box _ _ ⟨vS, vS, vS, vS, vS, vS, vS, trivial⟩⟩, trivial⟩
  ·rw [if_pos f31] at h
   simp -implicitDefEqProofs only [go_sem, seval, f31, hsA, hsB, hsC]
   cases f32 : (x1.1.err == 0)
   ·rw [if_neg (nF f32)] at h
    refine X_cond (lx_ok γ) ?_
    simp -implicitDefEqProofs only [go_sem, seval, f31, f32, hsA, hsB, hsC]
    refine X_skip ?_
    try simp -implicitDefEqProofs only [go_sem]
    refine kJ_in ?_ ⟨x1.1.err, h, rfl, rfl⟩
    exact To.mv [(0, 0), (1, 0)] (BaseR.set hob (.box _ _ (by exact ⟨VLe.self (by simp [*]), VLe.self (by simp [*]), trivial⟩))) (by simp) (by decide) (by simp only [go_sem]; exact ⟨VM.self (by simp [*]), VM.refA (j := 0) (t := 0) rfl, VM.refA (j := 1) (t := 1) rfl, vS⟩) ⟨⟨_, rfl, OM.box _ _ ⟨vS, vS, vS, vS, vS, vS, vS, trivial⟩⟩, ⟨_, rfl, OM.box _ _ ⟨vS, vS, vS, vS, vS, vS, vS, trivial⟩⟩, trivial⟩
   ·rw [if_pos f32] at h
    refine X_cond (lx_ok γ) ?_
    simp -implicitDefEqProofs only [go_sem, seval, f31, f32, hsA, hsB, hsC]
    refine X_reg (lx_ok γ) ?_
    simp -implicitDefEqProofs only [go_sem, seval, f31, f32, hsA, hsB, hsC]
    refine kJ_in ?_ ⟨5, h, rfl, rfl⟩
    exact To.mv [(0, 0), (1, 0)] (BaseR.set hob (.box _ _ (by exact ⟨VLe.self (by simp [*]), VLe.self (by simp [*]), trivial⟩))) (by simp) (by decide) (by simp only [go_sem]; exact ⟨VM.self (by simp [*]), VM.refA (j := 0) (t := 0) rfl, VM.refA (j := 1) (t := 1) rfl, vS⟩) ⟨⟨_, rfl, OM.box _ _ ⟨vS, vS, vS, vS, vS, vS, vS, trivial⟩⟩, ⟨_, rfl, OM.box _ _ ⟨vS, vS, vS, vS, vS, vS, vS, trivial⟩⟩, trivial⟩
end Go.Pf
end
section
set_option maxRecDepth 100000
namespace Go.Pf
open Go Go.Ab Go.Pp Go.Proofs Go.Proofs.S04
attribute [local go_sem] Lxτ Lxγ gam0 Int.toNat_natCast tau3 tau5 tau28 tau29 tau31 tau32 tau35 tau42 tau44 tau45 tau74 tau76 eI eB eS e_Ins e_Block e_Func e_Prog e_code_writer e_code_reader e_Edge
set_option maxHeartbeats 1000000 in
theorem code_reader_fn_ok (γ : GT) (ob : OT) {o0 : Nat} {a0 : code_reader} (hx0 : getO ob o0 = some (O.box [V.tr (.sl 1 false (List.map (eI .u8) a0.b)), vint .i64 a0.err])) {r : code_reader × Func} (h : code_reader_fn a0 = some r) :
  Valid (Lx γ) 63 [V.ref o0 0] ob (V.agg [V.row ob.length 0 0 (List.length r.2.Kinds), V.row (ob.length + 1) 0 0 (List.length r.2.Base), vint .i64 r.2.Params, vint .i64 r.2.Result, V.row (ob.length + 2) 0 0 (List.length r.2.Blocks)]) ((List.set ob o0 (some (O.box [V.tr (.sl 1 false (List.map (eI .u8) r.1.b)), vint .i64 r.1.err]))) ++ [some (O.row 1 0 (List.map (eI .i64) r.2.Kinds)), some (O.row 1 0 (List.map (eI .i64) r.2.Base)), some (O.row 1 0 (List.map e_Block r.2.Blocks))]) := by
 refine valid_X (lx_ok γ) (fn := Tryd.f63) (rs := [.cell 2 31]) Tryd.func63 (by kernel_rfl) rfl rfl Tryd.ntmps63 rfl (by simp) fun hb hob => ?_
 have hoa0 := getO_lt hx0
 refine X_ob (set_own hx0) ?_
 have hsA : ∀ (x : Option O) (l : OT), getO (List.set ob o0 x ++ l) o0 = x := fun _ _ => getO_selfA hoa0
 have hsB : ∀ (x : Option O), getO (List.set ob o0 x) o0 = x := fun _ => getO_self hoa0
 have hsC : ∀ (x y : Option O) (l : OT), List.set (List.set ob o0 x ++ l) o0 y = List.set ob o0 y ++ l := fun _ _ _ => set_selfA hoa0
 rw [code_reader_fn] at h
 refine X_sr (lx_ok γ) ?_
 simp -implicitDefEqProofs only [go_sem, seval, hsA, hsB, hsC]
 refine X_seq ?_
 refine X_sr (lx_ok γ) ?_
 obtain ⟨x1, f1, h⟩ := bindE h
 simp -implicitDefEqProofs only [go_sem, seval, hsA, hsB, hsC]
 refine callV_eq (code_reader_within_ok γ _ (by simp -implicitDefEqProofs only [go_sem, seval, hsA, hsB, hsC]; try rfl) f1) rfl rfl ?_
 simp -implicitDefEqProofs only [go_sem, seval, hsA, hsB, hsC]
 refine X_jq (J := fun as1 ob1 => ∃ (x2 : List Int) (x3 : List Int) (x4 : List Int) (x5 : Int), code_reader_fn.k1 x2 x3 x4 x5 = some r ∧ [(0, V.ref o0 0), (2, V.ref ob.length 0)] = as1 ∧ (List.set ob o0 (some (O.box [V.tr (.sl 1 false (List.map (eI .u8) x4)), vint .i64 x5]))) ++ [some (O.box [V.row (ob.length + 1) 0 0 (List.length x2), V.row (ob.length + 2) 0 0 (List.length x3), vint .i64 0, vint .i64 0, V.tr (.sl 0 true [])]), some (O.row 1 0 (List.map (eI .i64) x2)), some (O.row 1 0 (List.map (eI .i64) x3))] = ob1) ?_ ?_
 ·rintro as1 ob1 ⟨x2, x3, x4, x5, h, rfl, rfl⟩
  rw [code_reader_fn.k1] at h
  simp -implicitDefEqProofs only [go_sem, seval, hsA, hsB, hsC]
  refine X_sr (lx_ok γ) ?_
  obtain ⟨x7, f2, h⟩ := bindE h
  simp -implicitDefEqProofs only [go_sem, seval, hsA, hsB, hsC]
  refine callV_eq (code_reader_number_ok γ _ (by simp -implicitDefEqProofs only [go_sem, seval, hsA, hsB, hsC]; try rfl) f2) rfl rfl ?_
  obtain ⟨x8, f3, h⟩ := bindE h
  simp -implicitDefEqProofs only [go_sem, seval, hsA, hsB, hsC]
  refine callV_eq (code_reader_number_ok γ _ (by simp -implicitDefEqProofs only [go_sem, seval, hsA, hsB, hsC]; try rfl) f3) rfl rfl ?_
  simp -implicitDefEqProofs only [go_sem, seval, hsA, hsB, hsC]
  refine X_seq ?_
  refine X_sr (lx_ok γ) ?_
  obtain ⟨x9, f4, h⟩ := bindE h
  simp -implicitDefEqProofs only [go_sem, seval, hsA, hsB, hsC]
  refine callV_eq (code_reader_within_ok γ _ (by simp -implicitDefEqProofs only [go_sem, seval, hsA, hsB, hsC]; try rfl) f4) rfl rfl ?_
  simp -implicitDefEqProofs only [go_sem, seval, hsA, hsB, hsC]
  refine X_jq (J := fun as1 ob1 => ∃ (x10 : List Block) (x11 : List Int) (x12 : Int), code_reader_fn.k2 x2 x3 x7 x8 x10 x11 x12 = some r ∧ [(2, V.ref ob.length 0)] = as1 ∧ (List.set ob o0 (some (O.box [V.tr (.sl 1 false (List.map (eI .u8) x11)), vint .i64 x12]))) ++ [some (O.box [V.row (ob.length + 1) 0 0 (List.length x2), V.row (ob.length + 2) 0 0 (List.length x3), vint .i64 x7.2, vint .i64 x8.2, V.row (ob.length + 3) 0 0 (List.length x10)]), some (O.row 1 0 (List.map (eI .i64) x2)), some (O.row 1 0 (List.map (eI .i64) x3)), some (O.row 1 0 (List.map e_Block x10))] = ob1) ?_ ?_
  ·rintro as1 ob1 ⟨x10, x11, x12, h, rfl, rfl⟩
   rw [code_reader_fn.k2] at h
   simp -implicitDefEqProofs only [go_sem, seval, hsA, hsB, hsC]
   refine X_sr (lx_ok γ) ?_
   simp -implicitDefEqProofs only [go_sem, seval, hsA, hsB, hsC]
   obtain rfl := sI h
   refine X_ret ?_
   simp -implicitDefEqProofs only [go_sem, seval, hsA, hsB, hsC]
   exact Rt.mv [(1, 0), (2, 0), (3, 0)] (BaseR.set hob (.box _ _ (by exact ⟨VLe.self (by simp [*]), VLe.self (by simp [*]), trivial⟩))) (by simp) (by decide) (VM.agg ⟨VM.rowL (j := 1) (t := 0) rfl (by first | rfl | simp | simp_all | omega), VM.rowL (j := 2) (t := 1) rfl (by first | rfl | simp | simp_all | omega), vS, vS, VM.rowL (j := 3) (t := 2) rfl (by first | rfl | simp | simp_all | omega), trivial⟩) ⟨⟨_, rfl, OM.row' (by first | rfl | simp_all)⟩, ⟨_, rfl, OM.row' (by first | rfl | simp_all)⟩, ⟨_, rfl, OM.row' (by first | rfl | simp_all)⟩, trivial⟩
  ·refine X_block ?_
   obtain ⟨lr2, hl2, hk2, hr2⟩ := aft2 h
   refine X_forN hl2 (fun (i2 : Nat) (s : (List Block) × (List Int) × Int) as1 ob1 => [(0, V.ref o0 0), (2, V.ref ob.length 0), (36, vint .i64 x9.2), (37, vint .i64 (i2 : Int))] = as1 ∧ (List.set ob o0 (some (O.box [V.tr (.sl 1 false (List.map (eI .u8) s.2.1)), vint .i64 s.2.2]))) ++ [some (O.box [V.row (ob.length + 1) 0 0 (List.length x2), V.row (ob.length + 2) 0 0 (List.length x3), vint .i64 x7.2, vint .i64 x8.2, V.row (ob.length + 3) 0 0 (List.length s.1)]), some (O.row 1 0 (List.map (eI .i64) x2)), some (O.row 1 0 (List.map (eI .i64) x3)), some (O.row 1 0 (List.map e_Block s.1))] = ob1) ⟨_, _, ?_, rfl, rfl⟩ ?_ ?_
   ·exact To.trans (To.gh (as' := [(0, _), (2, _), (36, _), (37, _)]) (l' := [some (O.box [_, _, _, _, V.row (ob.length + 3) 0 0 0]), _, _]) 1 ⟨VG.refl _ _ _, VG.refl _ _ _, VG.refl _ _ _, VG.refl _ _ _, trivial⟩ ⟨Or.inr ⟨_, _, rfl, rfl, .box _ _ ⟨VG.refl _ _ _, VG.refl _ _ _, VG.refl _ _ _, VG.refl _ _ _, VG.nilL, trivial⟩⟩, Or.inl rfl, Or.inl rfl, trivial⟩) (To.mv [(0, 0), (1, 0), (2, 0), (3, 0)] (BaseR.set hob (.box _ _ (by exact ⟨VLe.self (by simp [*]), VLe.self (by simp [*]), trivial⟩))) (by simp) (by decide) (by simp only [go_sem]; exact ⟨VM.self (by simp [*]), VM.refA (j := 0) (t := 0) rfl, vS, VM.eqv (by simp) (by simp)⟩) ⟨⟨_, rfl, OM.box _ _ ⟨VM.rowL (j := 1) (t := 1) rfl (by first | rfl | simp | simp_all | omega), VM.rowL (j := 2) (t := 2) rfl (by first | rfl | simp | simp_all | omega), vS, vS, VM.rowL (j := 3) (t := 3) rfl (by simp), trivial⟩⟩, ⟨_, rfl, OM.row' (by first | rfl | simp_all)⟩, ⟨_, rfl, OM.row' (by first | rfl | simp_all)⟩, ⟨_, rfl, OM.row' rfl⟩, trivial⟩)
   ·rintro i2 ⟨x10, x11, x12⟩ o2 hi2 hw2 h ho2 as1 ob1 ⟨rfl, rfl⟩
    rw [code_reader_fn.b2] at h
    refine X_sr (lx_ok γ) ?_
    simp -implicitDefEqProofs only [go_sem, seval, hi2, hsA, hsB, hsC]
    refine X_seq ?_
    refine X_cond (lx_ok γ) ?_
    simp -implicitDefEqProofs only [go_sem, seval, hi2, hsA, hsB, hsC]
    refine X_skip ?_
    try simp -implicitDefEqProofs only [go_sem]
    refine X_seq ?_
    refine X_block ?_
    refine X_sr (lx_ok γ) ?_
    simp -implicitDefEqProofs only [go_sem, seval, hi2, hsA, hsB, hsC]
    refine X_seq ?_
    refine X_sr (lx_ok γ) ?_
    obtain ⟨x14, f5, h⟩ := bindE h
    simp -implicitDefEqProofs only [go_sem, seval, hi2, hsA, hsB, hsC]
    refine callV_eq (code_reader_within_ok γ _ (by simp -implicitDefEqProofs only [go_sem, seval, hi2, hsA, hsB, hsC]; try rfl) f5) rfl rfl ?_
    simp -implicitDefEqProofs only [go_sem, seval, hi2, hsA, hsB, hsC]
    refine X_jq (J := fun as1 ob1 => ∃ (x15 : List Ins) (x16 : List Int) (x17 : Int), code_reader_fn.k3 x10 x15 x16 x17 = some o2 ∧ [(0, V.ref o0 0), (2, V.ref ob.length 0), (5, V.ref (ob.length + 4) 0), (36, vint .i64 x9.2), (37, vint .i64 (i2 : Int))] = as1 ∧ (List.set ob o0 (some (O.box [V.tr (.sl 1 false (List.map (eI .u8) x16)), vint .i64 x17]))) ++ [some (O.box [V.row (ob.length + 1) 0 0 (List.length x2), V.row (ob.length + 2) 0 0 (List.length x3), vint .i64 x7.2, vint .i64 x8.2, V.row (ob.length + 3) 0 0 (List.length x10)]), some (O.row 1 0 (List.map (eI .i64) x2)), some (O.row 1 0 (List.map (eI .i64) x3)), some (O.row 1 0 (List.map e_Block x10)), some (O.box [V.row (ob.length + 5) 0 0 (List.length x15)]), some (O.row 7 0 (List.map e_Ins x15))] = ob1) ?_ ?_
    ·rintro as1 ob1 ⟨x15, x16, x17, h, rfl, rfl⟩
     rw [code_reader_fn.k3] at h
     simp -implicitDefEqProofs only [go_sem, seval, hi2, hsA, hsB, hsC]
     refine X_reg (lx_ok γ) ?_
     obtain ⟨x19, f6, h⟩ := bindE h
     have f7 : List.length x19 * 24 ≤ 140737488355328 := by have := (appL_some f6).1; rw [(appL_some f6).2]; simpa using this
     have f8 : List.map e_Block x10 ++ [[.sl 7 false (List.map e_Ins x15)]] = List.map e_Block x19 := by rw [(appL_some f6).2]; simp [eB, eI, eS, e_Block]
     have f9 : List.length x10 + 1 = List.length x19 := by rw [(appL_some f6).2]; simp
     simp -implicitDefEqProofs only [go_sem, seval, hi2, hsA, hsB, hsC, f7, f8, f9]
     refine X_reg (lx_ok γ) ?_
     obtain rfl := sI h
     simp -implicitDefEqProofs only [go_sem, seval, hi2, hsA, hsB, hsC]
     refine kR_in rfl ?_ ⟨rfl, rfl⟩
     exact To.mv [(0, 0), (1, 0), (2, 0), (3, 1)] (BaseR.set hob (.box _ _ (by exact ⟨VLe.self (by simp [*]), VLe.self (by simp [*]), trivial⟩))) (by simp) (by decide) (by simp only [go_sem]; exact ⟨VM.self (by simp [*]), VM.refA (j := 0) (t := 0) rfl, vS, VM.eqv (by rw [hw2]) (by simp)⟩) ⟨⟨_, rfl, OM.box _ _ ⟨VM.rowL (j := 1) (t := 1) rfl (by first | rfl | simp | simp_all | omega), VM.rowL (j := 2) (t := 2) rfl (by first | rfl | simp | simp_all | omega), vS, vS, VM.rowL (j := 3) (t := 3) rfl (by first | rfl | simp | simp_all | omega), trivial⟩⟩, ⟨_, rfl, OM.row' (by first | rfl | simp_all)⟩, ⟨_, rfl, OM.row' (by first | rfl | simp_all)⟩, ⟨_, rfl, OM.row' (by first | rfl | simp_all)⟩, trivial⟩
    ·refine X_block ?_
     obtain ⟨lr3, hl3, hk3, hr3⟩ := aft2 h
     refine X_forN hl3 (fun (i3 : Nat) (s : (List Ins) × (List Int) × Int) as1 ob1 => [(0, V.ref o0 0), (2, V.ref ob.length 0), (5, V.ref (ob.length + 4) 0), (36, vint .i64 x9.2), (37, vint .i64 (i2 : Int)), (40, vint .i64 x14.2), (41, vint .i64 (i3 : Int))] = as1 ∧ (List.set ob o0 (some (O.box [V.tr (.sl 1 false (List.map (eI .u8) s.2.1)), vint .i64 s.2.2]))) ++ [some (O.box [V.row (ob.length + 1) 0 0 (List.length x2), V.row (ob.length + 2) 0 0 (List.length x3), vint .i64 x7.2, vint .i64 x8.2, V.row (ob.length + 3) 0 0 (List.length x10)]), some (O.row 1 0 (List.map (eI .i64) x2)), some (O.row 1 0 (List.map (eI .i64) x3)), some (O.row 1 0 (List.map e_Block x10)), some (O.box [V.row (ob.length + 5) 0 0 (List.length s.1)]), some (O.row 7 0 (List.map e_Ins s.1))] = ob1) ⟨_, _, ?_, rfl, rfl⟩ ?_ ?_
     ·exact To.trans (To.gh (as' := [(0, _), (2, _), (5, _), (36, _), (37, _), (40, _), (41, _)]) (l' := [some (O.box [_, _, _, _, _]), _, _, _, some (O.box [V.row (ob.length + 5) 0 0 0])]) 7 ⟨VG.refl _ _ _, VG.refl _ _ _, VG.refl _ _ _, VG.refl _ _ _, VG.refl _ _ _, VG.refl _ _ _, VG.refl _ _ _, trivial⟩ ⟨Or.inl rfl, Or.inl rfl, Or.inl rfl, Or.inl rfl, Or.inr ⟨_, _, rfl, rfl, .box _ _ ⟨VG.nilL, trivial⟩⟩, trivial⟩) (To.mv [(0, 0), (1, 0), (2, 0), (3, 0), (4, 0), (5, 0)] (BaseR.set hob (.box _ _ (by exact ⟨VLe.self (by simp [*]), VLe.self (by simp [*]), trivial⟩))) (by simp) (by decide) (by simp only [go_sem]; exact ⟨VM.self (by simp [*]), VM.refA (j := 0) (t := 0) rfl, VM.refA (j := 4) (t := 4) rfl, vS, vS, vS, VM.eqv (by simp) (by simp)⟩) ⟨⟨_, rfl, OM.box _ _ ⟨VM.rowL (j := 1) (t := 1) rfl (by first | rfl | simp | simp_all | omega), VM.rowL (j := 2) (t := 2) rfl (by first | rfl | simp | simp_all | omega), vS, vS, VM.rowL (j := 3) (t := 3) rfl (by first | rfl | simp | simp_all | omega), trivial⟩⟩, ⟨_, rfl, OM.row' (by first | rfl | simp_all)⟩, ⟨_, rfl, OM.row' (by first | rfl | simp_all)⟩, ⟨_, rfl, OM.row' (by first | rfl | simp_all)⟩, ⟨_, rfl, OM.box _ _ ⟨VM.rowL (j := 5) (t := 5) rfl (by simp), trivial⟩⟩, ⟨_, rfl, OM.row' rfl⟩, trivial⟩)
     ·rintro i3 ⟨x15, x16, x17⟩ o3 hi3 hw3 h ho3 as1 ob1 ⟨rfl, rfl⟩
      rw [code_reader_fn.b3] at h
      refine X_sr (lx_ok γ) ?_
      simp -implicitDefEqProofs only [go_sem, seval, hi2, hi3, hsA, hsB, hsC]
      refine X_seq ?_
      refine X_cond (lx_ok γ) ?_
      simp -implicitDefEqProofs only [go_sem, seval, hi2, hi3, hsA, hsB, hsC]
      refine X_skip ?_
      try simp -implicitDefEqProofs only [go_sem]
      refine X_seq ?_
      refine X_block ?_
      refine X_drawn (lx_ok γ) [[], [0], [], [2], [2, 3], [0, 1, 2, 3, 4], [0, 1, 2, 3, 4, 5], [0, 1, 2, 3, 4, 5, 6]] (fun i => match i with | 3 => true | 4 => true | 5 => true | 7 => true | _ => false) (by kernel_rfl) ?_
      obtain ⟨x20, f10, h⟩ := bindE h
      try simp -implicitDefEqProofs only [go_sem, seval, hi2, hi3, hsA, hsB, hsC, cmpr, List.getD_cons_zero, List.getD_cons_succ, List.contains_cons, List.contains_nil, Nat.reduceBEq, Bool.false_or, Bool.or_false, Bool.true_or, Bool.or_true, beq_self_eq_true]
      refine callV_eq (code_reader_ins_ok γ _ (by simp -implicitDefEqProofs only [go_sem, seval, hi2, hi3, hsA, hsB, hsC]; try rfl) f10) rfl rfl ?_
      obtain ⟨x21, f11, h⟩ := bindE h
      have f12 : List.length x21 * 72 ≤ 140737488355328 := by have := (appL_some f11).1; rw [(appL_some f11).2]; simpa using this
      have f13 : List.map e_Ins x15 ++ [[.lit (.int .i64 x20.2.Op), .lit (.int .i64 x20.2.D), .lit (.int .i64 x20.2.A), .lit (.int .i64 x20.2.B), .lit (.int .i64 x20.2.N), .lit (.int .i64 x20.2.M), .sl 1 false (List.map (eI .i64) x20.2.Args)]] = List.map e_Ins x21 := by rw [(appL_some f11).2]; simp [eB, eI, eS, e_Ins]
      have f14 : List.length x15 + 1 = List.length x21 := by rw [(appL_some f11).2]; simp
      try simp -implicitDefEqProofs only [go_sem, seval, hi2, hi3, hsA, hsB, hsC, f12, f13, f14, cmpr, List.getD_cons_zero, List.getD_cons_succ, List.contains_cons, List.contains_nil, Nat.reduceBEq, Bool.false_or, Bool.or_false, Bool.true_or, Bool.or_true, beq_self_eq_true]
      refine X_reg (lx_ok γ) ?_
      obtain rfl := sI h
      simp -implicitDefEqProofs only [go_sem, seval, hi2, hi3, hsA, hsB, hsC]
      refine kR_in rfl ?_ ⟨rfl, rfl⟩
      exact To.mv [(0, 0), (1, 0), (2, 0), (3, 0), (4, 0), (5, 1)] (BaseR.set hob (.box _ _ (by exact ⟨VLe.self (by simp [*]), VLe.self (by simp [*]), trivial⟩))) (by simp) (by decide) (by simp only [go_sem]; exact ⟨VM.self (by simp [*]), VM.refA (j := 0) (t := 0) rfl, VM.refA (j := 4) (t := 4) rfl, vS, vS, vS, VM.eqv (by rw [hw3]) (by simp)⟩) ⟨⟨_, rfl, OM.box _ _ ⟨VM.rowL (j := 1) (t := 1) rfl (by first | rfl | simp | simp_all | omega), VM.rowL (j := 2) (t := 2) rfl (by first | rfl | simp | simp_all | omega), vS, vS, VM.rowL (j := 3) (t := 3) rfl (by first | rfl | simp | simp_all | omega), trivial⟩⟩, ⟨_, rfl, OM.row' (by first | rfl | simp_all)⟩, ⟨_, rfl, OM.row' (by first | rfl | simp_all)⟩, ⟨_, rfl, OM.row' (by first | rfl | simp_all)⟩, ⟨_, rfl, OM.box _ _ ⟨VM.rowL (j := 5) (t := 5) rfl (by first | rfl | simp | simp_all | omega), trivial⟩⟩, ⟨_, rfl, OM.row' (by first | rfl | simp_all)⟩, trivial⟩
     ·rintro i3 ⟨x15, x16, x17⟩ hi3 hn3 as1 ob1 ⟨rfl, rfl⟩
      refine X_sr (lx_ok γ) ?_
      simp -implicitDefEqProofs only [go_sem, seval, hi2, hi3, hsA, hsB, hsC]
      refine X_seq ?_
      refine X_cond (lx_ok γ) ?_
      simp -implicitDefEqProofs only [go_sem, seval, hi2, hi3, hsA, hsB, hsC]
      have h := hk3 _ (.inl hn3)
      refine X_exit ?_
      try simp -implicitDefEqProofs only [go_sem, ↓reduceIte, Nat.reduceEqDiff, reduceCtorEq]
      refine kJ_in ?_ ⟨x15, x16, x17, h, rfl, rfl⟩
      exact To.mv [(0, 0), (1, 0), (2, 0), (3, 0), (4, 0), (5, 0)] (BaseR.set hob (.box _ _ (by exact ⟨VLe.self (by simp [*]), VLe.self (by simp [*]), trivial⟩))) (by simp) (by decide) (by simp only [go_sem]; exact ⟨VM.self (by simp [*]), VM.refA (j := 0) (t := 0) rfl, VM.refA (j := 4) (t := 4) rfl, vS, vS⟩) ⟨⟨_, rfl, OM.box _ _ ⟨VM.rowL (j := 1) (t := 1) rfl (by first | rfl | simp | simp_all | omega), VM.rowL (j := 2) (t := 2) rfl (by first | rfl | simp | simp_all | omega), vS, vS, VM.rowL (j := 3) (t := 3) rfl (by first | rfl | simp | simp_all | omega), trivial⟩⟩, ⟨_, rfl, OM.row' (by first | rfl | simp_all)⟩, ⟨_, rfl, OM.row' (by first | rfl | simp_all)⟩, ⟨_, rfl, OM.row' (by first | rfl | simp_all)⟩, ⟨_, rfl, OM.box _ _ ⟨VM.rowL (j := 5) (t := 5) rfl (by first | rfl | simp | simp_all | omega), trivial⟩⟩, ⟨_, rfl, OM.row' (by first | rfl | simp_all)⟩, trivial⟩
   ·rintro i2 ⟨x10, x11, x12⟩ hi2 hn2 as1 ob1 ⟨rfl, rfl⟩
    refine X_sr (lx_ok γ) ?_
    simp -implicitDefEqProofs only [go_sem, seval, hi2, hsA, hsB, hsC]
    refine X_seq ?_
    refine X_cond (lx_ok γ) ?_
    simp -implicitDefEqProofs only [go_sem, seval, hi2, hsA, hsB, hsC]
    have h := hk2 _ (.inl hn2)
    refine X_exit ?_
    try simp -implicitDefEqProofs only [go_sem, ↓reduceIte, Nat.reduceEqDiff, reduceCtorEq]
    refine kJ_in ?_ ⟨x10, x11, x12, h, rfl, rfl⟩
    exact To.mv [(0, 0), (1, 0), (2, 0), (3, 0)] (BaseR.set hob (.box _ _ (by exact ⟨VLe.self (by simp [*]), VLe.self (by simp [*]), trivial⟩))) (by simp) (by decide) (by simp only [go_sem]; exact VM.refA (j := 0) (t := 0) rfl) ⟨⟨_, rfl, OM.box _ _ ⟨VM.rowL (j := 1) (t := 1) rfl (by first | rfl | simp | simp_all | omega), VM.rowL (j := 2) (t := 2) rfl (by first | rfl | simp | simp_all | omega), vS, vS, VM.rowL (j := 3) (t := 3) rfl (by first | rfl | simp | simp_all | omega), trivial⟩⟩, ⟨_, rfl, OM.row' (by first | rfl | simp_all)⟩, ⟨_, rfl, OM.row' (by first | rfl | simp_all)⟩, ⟨_, rfl, OM.row' (by first | rfl | simp_all)⟩, trivial⟩
 ·refine X_block ?_
  obtain ⟨lr1, hl1, hk1, hr1⟩ := aft2 h
  refine X_forN hl1 (fun (i1 : Nat) (s : (List Int) × (List Int) × (List Int) × Int) as1 ob1 => [(0, V.ref o0 0), (2, V.ref ob.length 0), (7, vint .i64 x1.2), (8, vint .i64 (i1 : Int))] = as1 ∧ (List.set ob o0 (some (O.box [V.tr (.sl 1 false (List.map (eI .u8) s.2.2.1)), vint .i64 s.2.2.2]))) ++ [some (O.box [V.row (ob.length + 1) 0 0 (List.length s.1), V.row (ob.length + 2) 0 0 (List.length s.2.1), vint .i64 0, vint .i64 0, V.tr (.sl 0 true [])]), some (O.row 1 0 (List.map (eI .i64) s.1)), some (O.row 1 0 (List.map (eI .i64) s.2.1))] = ob1) ⟨_, _, ?_, rfl, rfl⟩ ?_ ?_
  ·exact To.trans (To.gh (as' := [(0, _), (2, _), (7, _), (8, _)]) (l' := [some (O.box [V.row (ob.length + 1) 0 0 0, _, _, _, _])]) 1 ⟨VG.refl _ _ _, VG.refl _ _ _, VG.refl _ _ _, VG.refl _ _ _, trivial⟩ ⟨Or.inr ⟨_, _, rfl, rfl, .box _ _ ⟨VG.nilL, VG.refl _ _ _, VG.refl _ _ _, VG.refl _ _ _, VG.refl _ _ _, trivial⟩⟩, trivial⟩) (To.trans (To.gh (as' := [(0, _), (2, _), (7, _), (8, _)]) (l' := [some (O.box [V.row (ob.length + 1) 0 0 0, V.row (ob.length + 2) 0 0 0, _, _, _]), _]) 1 ⟨VG.refl _ _ _, VG.refl _ _ _, VG.refl _ _ _, VG.refl _ _ _, trivial⟩ ⟨Or.inr ⟨_, _, rfl, rfl, .box _ _ ⟨VG.refl _ _ _, VG.nilL, VG.refl _ _ _, VG.refl _ _ _, VG.refl _ _ _, trivial⟩⟩, Or.inl rfl, trivial⟩) (To.mv [(0, 0), (1, 0), (2, 0)] (BaseR.set hob (.box _ _ (by exact ⟨VLe.self (by simp [*]), VLe.self (by simp [*]), trivial⟩))) (by simp) (by decide) (by simp only [go_sem]; exact ⟨VM.self (by simp [*]), VM.refA (j := 0) (t := 0) rfl, vS, VM.eqv (by simp) (by simp)⟩) ⟨⟨_, rfl, OM.box _ _ ⟨VM.rowL (j := 1) (t := 1) rfl (by simp), VM.rowL (j := 2) (t := 2) rfl (by simp), vS, vS, vS, trivial⟩⟩, ⟨_, rfl, OM.row' rfl⟩, ⟨_, rfl, OM.row' rfl⟩, trivial⟩))
  ·rintro i1 ⟨x2, x3, x4, x5⟩ o1 hi1 hw1 h ho1 as1 ob1 ⟨rfl, rfl⟩
   rw [code_reader_fn.b1] at h
   refine X_sr (lx_ok γ) ?_
   simp -implicitDefEqProofs only [go_sem, seval, hi1, hsA, hsB, hsC]
   refine X_seq ?_
   refine X_cond (lx_ok γ) ?_
   simp -implicitDefEqProofs only [go_sem, seval, hi1, hsA, hsB, hsC]
   refine X_skip ?_
   try simp -implicitDefEqProofs only [go_sem]
   refine X_seq ?_
   refine X_block ?_
   refine X_sr (lx_ok γ) ?_
   obtain ⟨x22, f15, h⟩ := bindE h
   simp -implicitDefEqProofs only [go_sem, seval, hi1, hsA, hsB, hsC]
   refine callV_eq (code_reader_within_ok γ _ (by simp -implicitDefEqProofs only [go_sem, seval, hi1, hsA, hsB, hsC]; try rfl) f15) rfl rfl ?_
   simp -implicitDefEqProofs only [go_sem, seval, hi1, hsA, hsB, hsC]
   refine X_seq ?_
   refine X_jq (J := fun as1 ob1 => ∃ (x23 : List Int) (x24 : Int) (x26 : Int), code_reader_fn.j1 x2 x3 x22 x23 x24 x26 = some o1 ∧ [(0, V.ref o0 0), (2, V.ref ob.length 0), (3, vint .i64 x22.2), (4, vint .i64 x26), (7, vint .i64 x1.2), (8, vint .i64 (i1 : Int))] = as1 ∧ (List.set ob o0 (some (O.box [V.tr (.sl 1 false (List.map (eI .u8) x23)), vint .i64 x24]))) ++ [some (O.box [V.row (ob.length + 1) 0 0 (List.length x2), V.row (ob.length + 2) 0 0 (List.length x3), vint .i64 0, vint .i64 0, V.tr (.sl 0 true [])]), some (O.row 1 0 (List.map (eI .i64) x2)), some (O.row 1 0 (List.map (eI .i64) x3))] = ob1) ?_ ?_
   ·rintro as1 ob1 ⟨x23, x24, x26, h, rfl, rfl⟩
    rw [code_reader_fn.j1] at h
    simp -implicitDefEqProofs only [go_sem, seval, hi1, hsA, hsB, hsC]
    refine X_drawn (lx_ok γ) [[], [0], [], [2], [0, 1, 2, 3], [], [5], [], [7], [0, 1, 2, 3, 4, 5, 6, 7, 8], [0, 1, 2, 3, 4, 5, 6], [0, 1, 2, 3, 4, 5, 6, 7, 8, 9, 10], [0, 1, 2, 3, 4, 5, 6, 7, 8, 9, 10, 11], [0, 1, 2, 3, 4, 5, 6, 7, 8, 9, 10, 11, 12]] (fun i => match i with | 4 => true | 9 => true | 11 => true | 13 => true | _ => false) (by kernel_rfl) ?_
    obtain ⟨x27, f16, h⟩ := bindE h
    have f17 : List.length x27 * 8 ≤ 140737488355328 := by have := (appL_some f16).1; rw [(appL_some f16).2]; simpa using this
    have f18 : List.map (eI .i64) x2 ++ [[.lit (.int .i64 x22.2)]] = List.map (eI .i64) x27 := by rw [(appL_some f16).2]; simp [eB, eI, eS]
    have f19 : List.length x2 + 1 = List.length x27 := by rw [(appL_some f16).2]; simp
    obtain ⟨x28, f20, h⟩ := bindE h
    have f21 : List.length x28 * 8 ≤ 140737488355328 := by have := (appL_some f20).1; rw [(appL_some f20).2]; simpa using this
    have f22 : List.map (eI .i64) x3 ++ [[.lit (.int .i64 x26)]] = List.map (eI .i64) x28 := by rw [(appL_some f20).2]; simp [eB, eI, eS]
    have f23 : List.length x3 + 1 = List.length x28 := by rw [(appL_some f20).2]; simp
    try simp -implicitDefEqProofs only [go_sem, seval, hi1, hsA, hsB, hsC, f17, f18, f19, f21, f22, f23, cmpr, List.getD_cons_zero, List.getD_cons_succ, List.contains_cons, List.contains_nil, Nat.reduceBEq, Bool.false_or, Bool.or_false, Bool.true_or, Bool.or_true, beq_self_eq_true]
    refine X_reg (lx_ok γ) ?_
    obtain rfl := sI h
    simp -implicitDefEqProofs only [go_sem, seval, hi1, hsA, hsB, hsC]
    refine kR_in rfl ?_ ⟨rfl, rfl⟩
    exact To.mv [(0, 0), (1, 1), (2, 1)] (BaseR.set hob (.box _ _ (by exact ⟨VLe.self (by simp [*]), VLe.self (by simp [*]), trivial⟩))) (by simp) (by decide) (by simp only [go_sem]; exact ⟨VM.self (by simp [*]), VM.refA (j := 0) (t := 0) rfl, vS, VM.eqv (by rw [hw1]) (by simp)⟩) ⟨⟨_, rfl, OM.box _ _ ⟨VM.rowL (j := 1) (t := 1) rfl (by first | rfl | simp | simp_all | omega), VM.rowL (j := 2) (t := 2) rfl (by first | rfl | simp | simp_all | omega), vS, vS, vS, trivial⟩⟩, ⟨_, rfl, OM.row' (by first | rfl | simp_all)⟩, ⟨_, rfl, OM.row' (by first | rfl | simp_all)⟩, trivial⟩
   ·refine X_sr (lx_ok γ) ?_
    simp -implicitDefEqProofs only [go_sem, seval, hi1, hsA, hsB, hsC]
    cases f24 : (x22.2 == 2)
    ·rw [if_neg (nF f24)] at h
     refine X_cond (lx_ok γ) ?_
     simp -implicitDefEqProofs only [go_sem, seval, hi1, f24, hsA, hsB, hsC]
     refine X_skip ?_
     try simp -implicitDefEqProofs only [go_sem]
     refine kJ_in ?_ ⟨x22.1.b, x22.1.err, (-1), h, rfl, rfl⟩
     exact To.mv [(0, 0), (1, 0), (2, 0)] (BaseR.set hob (.box _ _ (by exact ⟨VLe.self (by simp [*]), VLe.self (by simp [*]), trivial⟩))) (by simp) (by decide) (by simp only [go_sem]; exact ⟨VM.self (by simp [*]), VM.refA (j := 0) (t := 0) rfl, vS, vS, vS, vS⟩) ⟨⟨_, rfl, OM.box _ _ ⟨VM.rowL (j := 1) (t := 1) rfl (by first | rfl | simp | simp_all | omega), VM.rowL (j := 2) (t := 2) rfl (by first | rfl | simp | simp_all | omega), vS, vS, vS, trivial⟩⟩, ⟨_, rfl, OM.row' (by first | rfl | simp_all)⟩, ⟨_, rfl, OM.row' (by first | rfl | simp_all)⟩, trivial⟩
    ·rw [if_pos f24] at h
     refine X_cond (lx_ok γ) ?_
     simp -implicitDefEqProofs only [go_sem, seval, hi1, f24, hsA, hsB, hsC]
     refine X_reg (lx_ok γ) ?_
     obtain ⟨x29, f25, h⟩ := bindE h
     simp -implicitDefEqProofs only [go_sem, seval, hi1, f24, hsA, hsB, hsC]
     refine callV_eq (code_reader_number_ok γ _ (by simp -implicitDefEqProofs only [go_sem, seval, hi1, f24, hsA, hsB, hsC]; try rfl) f25) rfl rfl ?_
     simp -implicitDefEqProofs only [go_sem, seval, hi1, f24, hsA, hsB, hsC]
     refine kJ_in ?_ ⟨x29.1.b, x29.1.err, x29.2, h, rfl, rfl⟩
     exact To.mv [(0, 0), (1, 0), (2, 0)] (BaseR.set hob (.box _ _ (by exact ⟨VLe.self (by simp [*]), VLe.self (by simp [*]), trivial⟩))) (by simp) (by decide) (by simp only [go_sem]; exact ⟨VM.self (by simp [*]), VM.refA (j := 0) (t := 0) rfl, vS, vS, vS, vS⟩) ⟨⟨_, rfl, OM.box _ _ ⟨VM.rowL (j := 1) (t := 1) rfl (by first | rfl | simp | simp_all | omega), VM.rowL (j := 2) (t := 2) rfl (by first | rfl | simp | simp_all | omega), vS, vS, vS, trivial⟩⟩, ⟨_, rfl, OM.row' (by first | rfl | simp_all)⟩, ⟨_, rfl, OM.row' (by first | rfl | simp_all)⟩, trivial⟩
  ·rintro i1 ⟨x2, x3, x4, x5⟩ hi1 hn1 as1 ob1 ⟨rfl, rfl⟩
   refine X_sr (lx_ok γ) ?_
   simp -implicitDefEqProofs only [go_sem, seval, hi1, hsA, hsB, hsC]
   refine X_seq ?_
   refine X_cond (lx_ok γ) ?_
   simp -implicitDefEqProofs only [go_sem, seval, hi1, hsA, hsB, hsC]
   have h := hk1 _ (.inl hn1)
   refine X_exit ?_
   try simp -implicitDefEqProofs only [go_sem, ↓reduceIte, Nat.reduceEqDiff, reduceCtorEq]
   refine kJ_in ?_ ⟨x2, x3, x4, x5, h, rfl, rfl⟩
   exact To.mv [(0, 0), (1, 0), (2, 0)] (BaseR.set hob (.box _ _ (by exact ⟨VLe.self (by simp [*]), VLe.self (by simp [*]), trivial⟩))) (by simp) (by decide) (by simp only [go_sem]; exact ⟨VM.self (by simp [*]), VM.refA (j := 0) (t := 0) rfl⟩) ⟨⟨_, rfl, OM.box _ _ ⟨VM.rowL (j := 1) (t := 1) rfl (by first | rfl | simp | simp_all | omega), VM.rowL (j := 2) (t := 2) rfl (by first | rfl | simp | simp_all | omega), vS, vS, vS, trivial⟩⟩, ⟨_, rfl, OM.row' (by first | rfl | simp_all)⟩, ⟨_, rfl, OM.row' (by first | rfl | simp_all)⟩, trivial⟩
end Go.Pf
end
section
set_option maxRecDepth 100000
namespace Go.Pf
open Go Go.Ab Go.Pp Go.Proofs Go.Proofs.S04
attribute [local go_sem] Lxτ Lxγ gam0 Int.toNat_natCast tau3 tau5 tau22 tau24 tau28 tau29 tau31 tau32 tau35 tau42 tau44 tau45 tau74 tau76 eI eB eS e_Ins e_Block e_Func e_Prog e_code_writer e_code_reader e_Edge
set_option maxHeartbeats 1000000 in
theorem code_Decode_ok (γ : GT) (ob : OT) {a0 : List Int} {r : Prog × Int} (h : code_Decode a0 = some r) :
  Valid (Lx γ) 27 [V.tr (.sl 1 false (List.map (eI .u8) a0))] ob (V.tup [V.agg [V.tr (.sl 5 false (List.map e_Func r.1.Funcs))], vint .i64 r.2]) ob := by
 refine valid_X (lx_ok γ) (fn := Tryd.f27) (rs := [.cell 2 24, .tmp 3]) Tryd.func27 (by kernel_rfl) rfl rfl Tryd.ntmps27 rfl (by simp) fun hb hob => ?_
 rw [code_Decode] at h
 refine X_sr (lx_ok γ) ?_
 simp -implicitDefEqProofs only [go_sem, seval]
 refine X_sr (lx_ok γ) ?_
 simp -implicitDefEqProofs only [go_sem, seval]
 refine X_sr (lx_ok γ) ?_
 simp -implicitDefEqProofs only [go_sem, seval]
 refine X_sr (lx_ok γ) ?_
 obtain ⟨x1, f1, h⟩ := bindE h
 simp -implicitDefEqProofs only [go_sem, seval]
 refine callV_eq (code_reader_within_ok γ _ (by simp -implicitDefEqProofs only [go_sem, seval]; try rfl) f1) rfl rfl ?_
 simp -implicitDefEqProofs only [go_sem, seval]
 refine X_seq ?_
 refine X_jq (J := fun as1 ob1 => ∃ (x2 : Int), code_Decode.j1 x1 x2 = some r ∧ [(2, V.ref ob.length 0), (4, V.ref (ob.length + 1) 0), (5, V.ref (ob.length + 2) 0), (6, vint .i64 x1.2)] = as1 ∧ ob ++ [some (O.box [V.tr (.sl 0 true [])]), some (O.box [V.tr (.sl 1 false (List.map (eI .u8) x1.1.b)), vint .i64 x2]), some (O.box [V.tr (.sl 0 true [])])] = ob1) ?_ ?_
 ·rintro as1 ob1 ⟨x2, h, rfl, rfl⟩
  rw [code_Decode.j1] at h
  simp -implicitDefEqProofs only [go_sem, seval]
  refine X_seq ?_
  refine X_sr (lx_ok γ) ?_
  simp -implicitDefEqProofs only [go_sem, seval]
  refine X_jq (J := fun as1 ob1 => ∃ (x3 : List Func) (x4 : List Int) (x5 : Int), code_Decode.k1 x3 x4 x5 = some r ∧ [(2, V.ref ob.length 0), (4, V.ref (ob.length + 1) 0), (5, V.ref (ob.length + 2) 0)] = as1 ∧ ob ++ [some (O.box [V.tr (.sl 0 true [])]), some (O.box [V.tr (.sl 1 false (List.map (eI .u8) x4)), vint .i64 x5]), some (O.box [V.row (ob.length + 3) 0 0 (List.length x3)]), some (O.row 5 0 (List.map e_Func x3))] = ob1) ?_ ?_
  ·rintro as1 ob1 ⟨x3, x4, x5, h, rfl, rfl⟩
   rw [code_Decode.k1] at h
   simp -implicitDefEqProofs only [go_sem, seval]
   refine X_seq ?_
   refine X_jq (J := fun as1 ob1 => ∃ (x7 : Int), code_Decode.j2 x3 x7 = some r ∧ [(2, V.ref ob.length 0), (4, V.ref (ob.length + 1) 0), (5, V.ref (ob.length + 2) 0)] = as1 ∧ ob ++ [some (O.box [V.tr (.sl 0 true [])]), some (O.box [V.tr (.sl 1 false (List.map (eI .u8) x4)), vint .i64 x7]), some (O.box [V.row (ob.length + 3) 0 0 (List.length x3)]), some (O.row 5 0 (List.map e_Func x3))] = ob1) ?_ ?_
   ·rintro as1 ob1 ⟨x7, h, rfl, rfl⟩
    rw [code_Decode.j2] at h
    simp -implicitDefEqProofs only [go_sem, seval]
    refine X_seq ?_
    refine X_sr (lx_ok γ) ?_
    simp -implicitDefEqProofs only [go_sem, seval]
    cases f2 : (x7 != 0)
    ·rw [if_neg (nF f2)] at h
     refine X_cond (lx_ok γ) ?_
     simp -implicitDefEqProofs only [go_sem, seval, f2]
     refine X_skip ?_
     try simp -implicitDefEqProofs only [go_sem]
     refine X_sr (lx_ok γ) ?_
     simp -implicitDefEqProofs only [go_sem, seval, f2]
     obtain rfl := sI h
     refine X_ret ?_
     simp -implicitDefEqProofs only [go_sem, seval, f2]
     refine Rt.trans (Rt.freeze (by simp only [go_sem, ↓reduceIte, Nat.reduceAdd, Nat.reduceEqDiff, frz, frzL]; rfl)) ?_
     simp -implicitDefEqProofs only [go_sem, seval, f2]
     exact Rt.mv0 (BaseR.refl hob) (by simp) (VM.tup ⟨VM.agg ⟨vS, trivial⟩, vS, trivial⟩)
    ·rw [if_pos f2] at h
     refine X_cond (lx_ok γ) ?_
     simp -implicitDefEqProofs only [go_sem, seval, f2]
     refine X_seq ?_
     refine X_drawn (lx_ok γ) [[], [], [1], [1, 2], [1, 2, 3], [0], [0, 1, 2, 3, 4, 5]] (fun i => match i with | 5 => true | _ => false) (by kernel_rfl) ?_
     try simp -implicitDefEqProofs only [go_sem, seval, f2, cmpr, List.getD_cons_zero, List.getD_cons_succ, List.contains_cons, List.contains_nil, Nat.reduceBEq, Bool.false_or, Bool.or_false, Bool.true_or, Bool.or_true, beq_self_eq_true]
     obtain rfl := sI h
     refine X_ret ?_
     simp -implicitDefEqProofs only [go_sem, seval, f2]
     exact Rt.mv0 (BaseR.refl hob) (by simp) (VM.tup ⟨VM.agg ⟨VM.nil _ _ _, trivial⟩, vS, trivial⟩)
   ·refine X_sr (lx_ok γ) ?_
    cases f3 : (x5 == 0)
    ·rw [if_neg (nF f3)] at h
     simp -implicitDefEqProofs only [go_sem, seval, f3]
     refine X_condF (lx_ok γ) rfl ?_
     refine X_skip ?_
     try simp -implicitDefEqProofs only [go_sem]
     refine kJ_in ?_ ⟨x5, h, rfl, rfl⟩
     exact To.mv [(0, 0), (1, 0), (2, 0), (3, 0)] (BaseR.refl hob) (by simp) (by decide) (by simp only [go_sem]; exact ⟨VM.refA (j := 0) (t := 0) rfl, VM.refA (j := 1) (t := 1) rfl, VM.refA (j := 2) (t := 2) rfl⟩) ⟨⟨_, rfl, OM.box _ _ ⟨vS, trivial⟩⟩, ⟨_, rfl, OM.box _ _ ⟨vS, vS, trivial⟩⟩, ⟨_, rfl, OM.box _ _ ⟨VM.rowL (j := 3) (t := 3) rfl (by first | rfl | simp | simp_all | omega), trivial⟩⟩, ⟨_, rfl, OM.row' (by first | rfl | simp_all)⟩, trivial⟩
    ·rw [if_pos f3] at h
     simp -implicitDefEqProofs only [go_sem, seval, f3]
     cases f4 : decide (0 < (List.length x4 : Int))
     ·rw [if_neg (nF f4)] at h
      refine X_cond (lx_ok γ) ?_
      simp -implicitDefEqProofs only [go_sem, seval, f3, f4]
      refine X_skip ?_
      try simp -implicitDefEqProofs only [go_sem]
      refine kJ_in ?_ ⟨x5, h, rfl, rfl⟩
      exact To.mv [(0, 0), (1, 0), (2, 0), (3, 0)] (BaseR.refl hob) (by simp) (by decide) (by simp only [go_sem]; exact ⟨VM.refA (j := 0) (t := 0) rfl, VM.refA (j := 1) (t := 1) rfl, VM.refA (j := 2) (t := 2) rfl⟩) ⟨⟨_, rfl, OM.box _ _ ⟨vS, trivial⟩⟩, ⟨_, rfl, OM.box _ _ ⟨vS, vS, trivial⟩⟩, ⟨_, rfl, OM.box _ _ ⟨VM.rowL (j := 3) (t := 3) rfl (by first | rfl | simp | simp_all | omega), trivial⟩⟩, ⟨_, rfl, OM.row' (by first | rfl | simp_all)⟩, trivial⟩
     ·rw [if_pos f4] at h
      refine X_cond (lx_ok γ) ?_
      simp -implicitDefEqProofs only [go_sem, seval, f3, f4]
      refine X_reg (lx_ok γ) ?_
      simp -implicitDefEqProofs only [go_sem, seval, f3, f4]
      refine kJ_in ?_ ⟨11, h, rfl, rfl⟩
      exact To.mv [(0, 0), (1, 0), (2, 0), (3, 0)] (BaseR.refl hob) (by simp) (by decide) (by simp only [go_sem]; exact ⟨VM.refA (j := 0) (t := 0) rfl, VM.refA (j := 1) (t := 1) rfl, VM.refA (j := 2) (t := 2) rfl⟩) ⟨⟨_, rfl, OM.box _ _ ⟨vS, trivial⟩⟩, ⟨_, rfl, OM.box _ _ ⟨vS, vS, trivial⟩⟩, ⟨_, rfl, OM.box _ _ ⟨VM.rowL (j := 3) (t := 3) rfl (by first | rfl | simp | simp_all | omega), trivial⟩⟩, ⟨_, rfl, OM.row' (by first | rfl | simp_all)⟩, trivial⟩
  ·refine X_block ?_
   obtain ⟨lr1, hl1, hk1, hr1⟩ := aft2 h
   refine X_forN hl1 (fun (i1 : Nat) (s : (List Func) × (List Int) × Int) as1 ob1 => [(2, V.ref ob.length 0), (4, V.ref (ob.length + 1) 0), (5, V.ref (ob.length + 2) 0), (24, vint .i64 x1.2), (25, vint .i64 (i1 : Int))] = as1 ∧ ob ++ [some (O.box [V.tr (.sl 0 true [])]), some (O.box [V.tr (.sl 1 false (List.map (eI .u8) s.2.1)), vint .i64 s.2.2]), some (O.box [V.row (ob.length + 3) 0 0 (List.length s.1)]), some (O.row 5 0 (List.map e_Func s.1))] = ob1) ⟨_, _, ?_, rfl, rfl⟩ ?_ ?_
   ·exact To.trans (To.gh (as' := [(2, _), (4, _), (5, _), (24, _), (25, _)]) (l' := [some (O.box [_]), some (O.box [_, _]), some (O.box [V.row (ob.length + 3) 0 0 0])]) 5 ⟨VG.refl _ _ _, VG.refl _ _ _, VG.refl _ _ _, VG.refl _ _ _, VG.refl _ _ _, trivial⟩ ⟨Or.inl rfl, Or.inl rfl, Or.inr ⟨_, _, rfl, rfl, .box _ _ ⟨VG.nilL, trivial⟩⟩, trivial⟩) (To.mv [(0, 0), (1, 0), (2, 0), (3, 0)] (BaseR.refl hob) (by simp) (by decide) (by simp only [go_sem]; exact ⟨VM.refA (j := 0) (t := 0) rfl, VM.refA (j := 1) (t := 1) rfl, VM.refA (j := 2) (t := 2) rfl, vS, VM.eqv (by simp) (by simp)⟩) ⟨⟨_, rfl, OM.box _ _ ⟨vS, trivial⟩⟩, ⟨_, rfl, OM.box _ _ ⟨vS, vS, trivial⟩⟩, ⟨_, rfl, OM.box _ _ ⟨VM.rowL (j := 3) (t := 3) rfl (by simp), trivial⟩⟩, ⟨_, rfl, OM.row' rfl⟩, trivial⟩)
   ·rintro i1 ⟨x3, x4, x5⟩ o1 hi1 hw1 h ho1 as1 ob1 ⟨rfl, rfl⟩
    rw [code_Decode.b1] at h
    refine X_sr (lx_ok γ) ?_
    simp -implicitDefEqProofs only [go_sem, seval, hi1]
    refine X_seq ?_
    refine X_cond (lx_ok γ) ?_
    simp -implicitDefEqProofs only [go_sem, seval, hi1]
    refine X_skip ?_
    try simp -implicitDefEqProofs only [go_sem]
    refine X_seq ?_
    refine X_block ?_
    refine X_drawn (lx_ok γ) [[], [0], [], [2], [2, 3], [0, 1, 2, 3, 4], [0, 1, 2, 3, 4, 5], [0, 1, 2, 3, 4, 5, 6]] (fun i => match i with | 3 => true | 4 => true | 5 => true | 7 => true | _ => false) (by kernel_rfl) ?_
    obtain ⟨x8, f5, h⟩ := bindE h
    try simp -implicitDefEqProofs only [go_sem, seval, hi1, cmpr, List.getD_cons_zero, List.getD_cons_succ, List.contains_cons, List.contains_nil, Nat.reduceBEq, Bool.false_or, Bool.or_false, Bool.true_or, Bool.or_true, beq_self_eq_true]
    refine callV_eq (code_reader_fn_ok γ _ (by simp -implicitDefEqProofs only [go_sem, seval, hi1]; try rfl) f5) rfl rfl ?_
    obtain ⟨x9, f6, h⟩ := bindE h
    have f7 : List.length x9 * 88 ≤ 140737488355328 := by have := (appL_some f6).1; rw [(appL_some f6).2]; simpa using this
    have f8 : List.map e_Func x3 ++ [[.sl 1 false (List.map (eI .i64) x8.2.Kinds), .sl 1 false (List.map (eI .i64) x8.2.Base), .lit (.int .i64 x8.2.Params), .lit (.int .i64 x8.2.Result), .sl 1 false (List.map e_Block x8.2.Blocks)]] = List.map e_Func x9 := by rw [(appL_some f6).2]; simp [eB, eI, eS, e_Func]
    have f9 : List.length x3 + 1 = List.length x9 := by rw [(appL_some f6).2]; simp
    try simp -implicitDefEqProofs only [go_sem, seval, hi1, f7, f8, f9, cmpr, List.getD_cons_zero, List.getD_cons_succ, List.contains_cons, List.contains_nil, Nat.reduceBEq, Bool.false_or, Bool.or_false, Bool.true_or, Bool.or_true, beq_self_eq_true]
    refine X_reg (lx_ok γ) ?_
    obtain rfl := sI h
    simp -implicitDefEqProofs only [go_sem, seval, hi1]
    refine kR_in rfl ?_ ⟨rfl, rfl⟩
    exact To.mv [(0, 0), (1, 0), (2, 0), (3, 1)] (BaseR.refl hob) (by simp) (by decide) (by simp only [go_sem]; exact ⟨VM.refA (j := 0) (t := 0) rfl, VM.refA (j := 1) (t := 1) rfl, VM.refA (j := 2) (t := 2) rfl, vS, VM.eqv (by rw [hw1]) (by simp)⟩) ⟨⟨_, rfl, OM.box _ _ ⟨vS, trivial⟩⟩, ⟨_, rfl, OM.box _ _ ⟨vS, vS, trivial⟩⟩, ⟨_, rfl, OM.box _ _ ⟨VM.rowL (j := 3) (t := 3) rfl (by first | rfl | simp | simp_all | omega), trivial⟩⟩, ⟨_, rfl, OM.row' (by first | rfl | simp_all)⟩, trivial⟩
   ·rintro i1 ⟨x3, x4, x5⟩ hi1 hn1 as1 ob1 ⟨rfl, rfl⟩
    refine X_sr (lx_ok γ) ?_
    simp -implicitDefEqProofs only [go_sem, seval, hi1]
    refine X_seq ?_
    refine X_cond (lx_ok γ) ?_
    simp -implicitDefEqProofs only [go_sem, seval, hi1]
    have h := hk1 _ (.inl hn1)
    refine X_exit ?_
    try simp -implicitDefEqProofs only [go_sem, ↓reduceIte, Nat.reduceEqDiff, reduceCtorEq]
    refine kJ_in ?_ ⟨x3, x4, x5, h, rfl, rfl⟩
    exact To.mv [(0, 0), (1, 0), (2, 0), (3, 0)] (BaseR.refl hob) (by simp) (by decide) (by simp only [go_sem]; exact ⟨VM.refA (j := 0) (t := 0) rfl, VM.refA (j := 1) (t := 1) rfl, VM.refA (j := 2) (t := 2) rfl⟩) ⟨⟨_, rfl, OM.box _ _ ⟨vS, trivial⟩⟩, ⟨_, rfl, OM.box _ _ ⟨vS, vS, trivial⟩⟩, ⟨_, rfl, OM.box _ _ ⟨VM.rowL (j := 3) (t := 3) rfl (by first | rfl | simp | simp_all | omega), trivial⟩⟩, ⟨_, rfl, OM.row' (by first | rfl | simp_all)⟩, trivial⟩
 ·refine X_sr (lx_ok γ) ?_
  cases f10 : (x1.2 == 0)
  ·rw [if_neg (nF f10)] at h
   simp -implicitDefEqProofs only [go_sem, seval, f10]
   refine X_condF (lx_ok γ) rfl ?_
   refine X_skip ?_
   try simp -implicitDefEqProofs only [go_sem]
   refine kJ_in ?_ ⟨x1.1.err, h, rfl, rfl⟩
   exact To.mv [(0, 0), (1, 0), (2, 0)] (BaseR.refl hob) (by simp) (by decide) (by simp only [go_sem]; exact ⟨VM.refA (j := 0) (t := 0) rfl, VM.refA (j := 1) (t := 1) rfl, VM.refA (j := 2) (t := 2) rfl, vS⟩) ⟨⟨_, rfl, OM.box _ _ ⟨vS, trivial⟩⟩, ⟨_, rfl, OM.box _ _ ⟨vS, vS, trivial⟩⟩, ⟨_, rfl, OM.box _ _ ⟨vS, trivial⟩⟩, trivial⟩
  ·rw [if_pos f10] at h
   simp -implicitDefEqProofs only [go_sem, seval, f10]
   cases f11 : (x1.1.err == 0)
   ·rw [if_neg (nF f11)] at h
    refine X_cond (lx_ok γ) ?_
    simp -implicitDefEqProofs only [go_sem, seval, f10, f11]
    refine X_skip ?_
    try simp -implicitDefEqProofs only [go_sem]
    refine kJ_in ?_ ⟨x1.1.err, h, rfl, rfl⟩
    exact To.mv [(0, 0), (1, 0), (2, 0)] (BaseR.refl hob) (by simp) (by decide) (by simp only [go_sem]; exact ⟨VM.refA (j := 0) (t := 0) rfl, VM.refA (j := 1) (t := 1) rfl, VM.refA (j := 2) (t := 2) rfl, vS⟩) ⟨⟨_, rfl, OM.box _ _ ⟨vS, trivial⟩⟩, ⟨_, rfl, OM.box _ _ ⟨vS, vS, trivial⟩⟩, ⟨_, rfl, OM.box _ _ ⟨vS, trivial⟩⟩, trivial⟩
   ·rw [if_pos f11] at h
    refine X_cond (lx_ok γ) ?_
    simp -implicitDefEqProofs only [go_sem, seval, f10, f11]
    refine X_reg (lx_ok γ) ?_
    simp -implicitDefEqProofs only [go_sem, seval, f10, f11]
    refine kJ_in ?_ ⟨9, h, rfl, rfl⟩
    exact To.mv [(0, 0), (1, 0), (2, 0)] (BaseR.refl hob) (by simp) (by decide) (by simp only [go_sem]; exact ⟨VM.refA (j := 0) (t := 0) rfl, VM.refA (j := 1) (t := 1) rfl, VM.refA (j := 2) (t := 2) rfl, vS⟩) ⟨⟨_, rfl, OM.box _ _ ⟨vS, trivial⟩⟩, ⟨_, rfl, OM.box _ _ ⟨vS, vS, trivial⟩⟩, ⟨_, rfl, OM.box _ _ ⟨vS, trivial⟩⟩, trivial⟩
end Go.Pf
end
section
set_option maxRecDepth 100000
namespace Go.Pf
open Go Go.Ab Go.Pp Go.Proofs Go.Proofs.S04
attribute [local go_sem] Lxτ Lxγ gam0 Int.toNat_natCast tau3 tau28 tau35 eI eB eS e_Ins e_Block e_Func e_Prog e_code_writer e_code_reader e_Edge
set_option maxHeartbeats 1000000 in
theorem portolanref03_SameIns_ok (γ : GT) (ob : OT) {a0 : Ins} {v0_6 : V} {a1 : Ins} {v1_6 : V} (hv0_6 : rdK (getO ob) 1 v0_6 = some (List.map (eI .i64) a0.Args)) (hv1_6 : rdK (getO ob) 1 v1_6 = some (List.map (eI .i64) a1.Args)) {r : Bool} (h : portolanref03_SameIns a0 a1 = some r) :
  Valid (Lx γ) 87 [V.agg [vint .i64 a0.Op, vint .i64 a0.D, vint .i64 a0.A, vint .i64 a0.B, vint .i64 a0.N, vint .i64 a0.M, v0_6], V.agg [vint .i64 a1.Op, vint .i64 a1.D, vint .i64 a1.A, vint .i64 a1.B, vint .i64 a1.N, vint .i64 a1.M, v1_6]] ob (vbool r) ob := by
 refine valid_X (lx_ok γ) (fn := Tryd.f87) (rs := [.tmp 4]) Tryd.func87 (by kernel_rfl) rfl rfl Tryd.ntmps87 rfl (by simp) fun hb hob => ?_
 have hq := And.intro (rd4 hv0_6) (rd4 hv1_6)
 rw [portolanref03_SameIns] at h
 refine X_sr (lx_ok γ) ?_
 simp -implicitDefEqProofs only [go_sem, seval, hq]
 refine X_sr (lx_ok γ) ?_
 cases f1 : (a0.Op == a1.Op)
 ·rw [if_neg (nF f1)] at h
  simp -implicitDefEqProofs only [go_sem, seval, f1, hq]
  obtain rfl := sI h
  refine X_ret ?_
  simp -implicitDefEqProofs only [go_sem, seval, f1, hq]
  exact Rt.mv0 (BaseR.refl hob) (by simp) (vS)
 ·rw [if_pos f1] at h
  cases f2 : (a0.D == a1.D)
  ·rw [if_neg (nF f2)] at h
   simp -implicitDefEqProofs only [go_sem, seval, f1, f2, hq]
   obtain rfl := sI h
   refine X_ret ?_
   simp -implicitDefEqProofs only [go_sem, seval, f1, f2, hq]
   exact Rt.mv0 (BaseR.refl hob) (by simp) (vS)
  ·rw [if_pos f2] at h
   cases f3 : (a0.A == a1.A)
   ·rw [if_neg (nF f3)] at h
    simp -implicitDefEqProofs only [go_sem, seval, f1, f2, f3, hq]
    obtain rfl := sI h
    refine X_ret ?_
    simp -implicitDefEqProofs only [go_sem, seval, f1, f2, f3, hq]
    exact Rt.mv0 (BaseR.refl hob) (by simp) (vS)
   ·rw [if_pos f3] at h
    cases f4 : (a0.B == a1.B)
    ·rw [if_neg (nF f4)] at h
     simp -implicitDefEqProofs only [go_sem, seval, f1, f2, f3, f4, hq]
     obtain rfl := sI h
     refine X_ret ?_
     simp -implicitDefEqProofs only [go_sem, seval, f1, f2, f3, f4, hq]
     exact Rt.mv0 (BaseR.refl hob) (by simp) (vS)
    ·rw [if_pos f4] at h
     cases f5 : (a0.N == a1.N)
     ·rw [if_neg (nF f5)] at h
      simp -implicitDefEqProofs only [go_sem, seval, f1, f2, f3, f4, f5, hq]
      obtain rfl := sI h
      refine X_ret ?_
      simp -implicitDefEqProofs only [go_sem, seval, f1, f2, f3, f4, f5, hq]
      exact Rt.mv0 (BaseR.refl hob) (by simp) (vS)
     ·rw [if_pos f5] at h
      cases f6 : (a0.M == a1.M)
      ·rw [if_neg (nF f6)] at h
       simp -implicitDefEqProofs only [go_sem, seval, f1, f2, f3, f4, f5, f6, hq]
       obtain rfl := sI h
       refine X_ret ?_
       simp -implicitDefEqProofs only [go_sem, seval, f1, f2, f3, f4, f5, f6, hq]
       exact Rt.mv0 (BaseR.refl hob) (by simp) (vS)
      ·rw [if_pos f6] at h
       obtain ⟨x1, f7, h⟩ := bindE h
       simp -implicitDefEqProofs only [go_sem, seval, f1, f2, f3, f4, f5, f6, hq]
       refine callV_eq (portolanref01_Ints_ok γ _ (by first | exact rdK_app hv0_6 | exact hv0_6) (by first | exact rdK_app hv1_6 | exact hv1_6) f7) rfl rfl ?_
       simp -implicitDefEqProofs only [go_sem, seval, f1, f2, f3, f4, f5, f6, hq]
       obtain rfl := sI h
       refine X_ret ?_
       simp -implicitDefEqProofs only [go_sem, seval, f1, f2, f3, f4, f5, f6, hq]
       exact Rt.mv0 (BaseR.refl hob) (by simp) (vS)
end Go.Pf
end
section
set_option maxRecDepth 100000
namespace Go.Pf
open Go Go.Ab Go.Pp Go.Proofs Go.Proofs.S04
attribute [local go_sem] Lxτ Lxγ gam0 Int.toNat_natCast List.append_eq List.cons_append List.nil_append tau3 tau4 tau28 tau29 tau31 tau35 tau42 tau44 eI eB eS e_Ins e_Block e_Func e_Prog e_code_writer e_code_reader e_Edge
set_option maxHeartbeats 1000000 in
theorem portolanref03_SameFunc_ok (γ : GT) (ob : OT) {a0 : Func} {v0_0 : V} {v0_1 : V} {v0_4 : V} {a1 : Func} {v1_0 : V} {v1_1 : V} {v1_4 : V} (hv0_0 : rdK (getO ob) 1 v0_0 = some (List.map (eI .i64) a0.Kinds)) (hv0_1 : rdK (getO ob) 1 v0_1 = some (List.map (eI .i64) a0.Base)) (hv0_4 : rdK (getO ob) 1 v0_4 = some (List.map e_Block a0.Blocks)) (hv1_0 : rdK (getO ob) 1 v1_0 = some (List.map (eI .i64) a1.Kinds)) (hv1_1 : rdK (getO ob) 1 v1_1 = some (List.map (eI .i64) a1.Base)) (hv1_4 : rdK (getO ob) 1 v1_4 = some (List.map e_Block a1.Blocks)) {r : Bool} (h : portolanref03_SameFunc a0 a1 = some r) :
  Valid (Lx γ) 64 [V.agg [v0_0, v0_1, vint .i64 a0.Params, vint .i64 a0.Result, v0_4], V.agg [v1_0, v1_1, vint .i64 a1.Params, vint .i64 a1.Result, v1_4]] ob (vbool r) ob := by
 refine valid_X (lx_ok γ) (fn := Tryd.f64) (rs := [.tmp 4]) Tryd.func64 (by kernel_rfl) rfl rfl Tryd.ntmps64 rfl (by simp) fun hb hob => ?_
 have hq := And.intro (rd4 hv0_0) (And.intro (rd4 hv0_1) (And.intro (rd4 hv0_4) (And.intro (rd4 hv1_0) (And.intro (rd4 hv1_1) (rd4 hv1_4)))))
 rw [portolanref03_SameFunc] at h
 refine X_sr (lx_ok γ) ?_
 simp -implicitDefEqProofs only [go_sem, seval, hq]
 refine X_seq ?_
 refine X_seq ?_
 refine X_jq (J := fun as1 ob1 => ∃ (x2 : Bool), portolanref03_SameFunc.j1 a0 a1 x2 = some r ∧ [(2, V.ref ob.length 0), (3, V.ref (ob.length + 1) 0), (45, vbool x2)] = as1 ∧ ob ++ [some (O.box [v0_0, v0_1, vint .i64 a0.Params, vint .i64 a0.Result, v0_4]), some (O.box [v1_0, v1_1, vint .i64 a1.Params, vint .i64 a1.Result, v1_4])] = ob1) ?_ ?_
 ·rintro as1 ob1 ⟨x2, h, rfl, rfl⟩
  rw [portolanref03_SameFunc.j1] at h
  simp -implicitDefEqProofs only [go_sem, seval, hq]
  cases f1 : x2
  ·rw [if_neg (nF f1)] at h
   refine X_cond (lx_ok γ) ?_
   simp -implicitDefEqProofs only [go_sem, seval, f1, hq]
   refine X_skip ?_
   try simp -implicitDefEqProofs only [go_sem]
   refine X_seq ?_
   refine X_sr (lx_ok γ) ?_
   simp -implicitDefEqProofs only [go_sem, seval, f1, hq]
   refine X_jq (J := fun as1 ob1 => portolanref03_SameFunc.k1 = some r ∧ [] = as1 ∧ ob = ob1) ?_ ?_
   ·rintro as1 ob1 ⟨h, rfl, rfl⟩
    rw [portolanref03_SameFunc.k1] at h
    simp -implicitDefEqProofs only [go_sem, seval, f1, hq]
    refine X_sr (lx_ok γ) ?_
    simp -implicitDefEqProofs only [go_sem, seval, f1, hq]
    obtain rfl := sI h
    refine X_ret ?_
    simp -implicitDefEqProofs only [go_sem, seval, f1, hq]
    exact Rt.mv1 (BaseR.refl hob) (by simp) (vS)
   ·refine X_block ?_
    obtain ⟨lr1, hl1, hk1, hr1⟩ := aft2 h
    refine X_forN hl1 (fun (i1 : Nat) (s : Unit) as1 ob1 => [(2, V.ref ob.length 0), (3, V.ref (ob.length + 1) 0), (5, vint .i64 (i1 : Int))] = as1 ∧ ob ++ [some (O.box [v0_0, v0_1, vint .i64 a0.Params, vint .i64 a0.Result, v0_4]), some (O.box [v1_0, v1_1, vint .i64 a1.Params, vint .i64 a1.Result, v1_4])] = ob1) ⟨_, _, ?_, rfl, rfl⟩ ?_ ?_
    ·exact To.mv [(0, 0), (1, 0)] (BaseR.refl hob) (by simp) (by decide) (by simp only [go_sem]; exact ⟨VM.refA (j := 0) (t := 0) rfl, VM.refA (j := 1) (t := 1) rfl, VM.eqv (by simp) (by simp)⟩) ⟨⟨_, rfl, OM.box _ _ ⟨VM.self (by simpa using Bd.of_rdK hv0_0), VM.self (by simpa using Bd.of_rdK hv0_1), vS, vS, VM.self (by simpa using Bd.of_rdK hv0_4), trivial⟩⟩, ⟨_, rfl, OM.box _ _ ⟨VM.self (by simpa using Bd.of_rdK hv1_0), VM.self (by simpa using Bd.of_rdK hv1_1), vS, vS, VM.self (by simpa using Bd.of_rdK hv1_4), trivial⟩⟩, trivial⟩
    ·rintro i1 _ o1 hi1 hw1 h ho1 as1 ob1 ⟨rfl, rfl⟩
     rw [portolanref03_SameFunc.b1] at h
     refine X_seq ?_
     refine X_sr (lx_ok γ) ?_
     simp -implicitDefEqProofs only [go_sem, seval, f1, hi1, hq]
     refine X_cond (lx_ok γ) ?_
     simp -implicitDefEqProofs only [go_sem, seval, f1, hi1, hq]
     refine X_skip ?_
     try simp -implicitDefEqProofs only [go_sem]
     refine X_seq ?_
     refine X_block ?_
     refine X_seq ?_
     refine X_drawn (lx_ok γ) [[], [0], [], [0, 1, 2], [0, 1, 2, 3], [0, 1, 2, 3, 4], [], [6], [], [6, 7, 8], [6, 7, 8, 9], [6, 7, 8, 9, 10], [0, 1, 2, 3, 4, 5], [0, 1, 2, 3, 4, 5, 6, 7, 8, 9, 10, 11, 12]] (fun i => match i with | _ => false) (by kernel_rfl) ?_
     obtain ⟨x4, f2, h⟩ := bindE h
     obtain ⟨f3, f4⟩ := ixL_nat f2
     have f5 : (0 : Int) ≤ (i1 : Int) := Int.natCast_nonneg _
     obtain ⟨x5, f6, h⟩ := bindE h
     obtain ⟨f7, f8⟩ := ixL_nat f6
     have f9 : (0 : Int) ≤ (i1 : Int) := Int.natCast_nonneg _
     try simp -implicitDefEqProofs only [go_sem, seval, f1, hi1, hq, f3, f4, f5, f7, f8, f9, cmpr, List.getD_cons_zero, List.getD_cons_succ, List.contains_cons, List.contains_nil, Nat.reduceBEq, Bool.false_or, Bool.or_false, Bool.true_or, Bool.or_true, beq_self_eq_true]
     refine X_seq ?_
     refine X_sr (lx_ok γ) ?_
     simp -implicitDefEqProofs only [go_sem, seval, f1, hi1, hq]
     cases f10 : ((List.length x4.Code : Int) != (List.length x5.Code : Int))
     ·rw [if_neg (nF f10)] at h
      refine X_cond (lx_ok γ) ?_
      simp -implicitDefEqProofs only [go_sem, seval, f1, hi1, f10, hq]
      refine X_skip ?_
      try simp -implicitDefEqProofs only [go_sem]
      refine X_sr (lx_ok γ) ?_
      simp -implicitDefEqProofs only [go_sem, seval, f1, hi1, f10, hq]
      refine X_jq (J := fun as1 ob1 => portolanref03_SameFunc.k2 = some o1 ∧ [(2, V.ref ob.length 0), (3, V.ref (ob.length + 1) 0), (5, vint .i64 (i1 : Int))] = as1 ∧ ob ++ [some (O.box [v0_0, v0_1, vint .i64 a0.Params, vint .i64 a0.Result, v0_4]), some (O.box [v1_0, v1_1, vint .i64 a1.Params, vint .i64 a1.Result, v1_4])] = ob1) ?_ ?_
      ·rintro as1 ob1 ⟨h, rfl, rfl⟩
       rw [portolanref03_SameFunc.k2] at h
       simp -implicitDefEqProofs only [go_sem, seval, f1, hi1, f10, hq]
       refine X_reg (lx_ok γ) ?_
       obtain rfl := sI h
       simp -implicitDefEqProofs only [go_sem, seval, f1, hi1, f10, hq]
       refine kR_in rfl ?_ ⟨rfl, rfl⟩
       exact To.mv [(0, 0), (1, 0)] (BaseR.refl hob) (by simp) (by decide) (by simp only [go_sem]; exact ⟨VM.refA (j := 0) (t := 0) rfl, VM.refA (j := 1) (t := 1) rfl, VM.eqv (by rw [hw1]) (by simp)⟩) ⟨⟨_, rfl, OM.box _ _ ⟨VM.self (by simpa using Bd.of_rdK hv0_0), VM.self (by simpa using Bd.of_rdK hv0_1), vS, vS, VM.self (by simpa using Bd.of_rdK hv0_4), trivial⟩⟩, ⟨_, rfl, OM.box _ _ ⟨VM.self (by simpa using Bd.of_rdK hv1_0), VM.self (by simpa using Bd.of_rdK hv1_1), vS, vS, VM.self (by simpa using Bd.of_rdK hv1_4), trivial⟩⟩, trivial⟩
      ·refine X_block ?_
       obtain ⟨lr2, hl2, hk2, hr2⟩ := aft2 h
       refine X_forN hl2 (fun (i2 : Nat) (s : Unit) as1 ob1 => [(2, V.ref ob.length 0), (3, V.ref (ob.length + 1) 0), (5, vint .i64 (i1 : Int)), (6, V.tr (.sl 7 false (List.map e_Ins x4.Code))), (7, V.tr (.sl 7 false (List.map e_Ins x5.Code))), (8, vint .i64 (i2 : Int))] = as1 ∧ ob ++ [some (O.box [v0_0, v0_1, vint .i64 a0.Params, vint .i64 a0.Result, v0_4]), some (O.box [v1_0, v1_1, vint .i64 a1.Params, vint .i64 a1.Result, v1_4])] = ob1) ⟨_, _, ?_, rfl, rfl⟩ ?_ ?_
       ·exact To.mv [(0, 0), (1, 0)] (BaseR.refl hob) (by simp) (by decide) (by simp only [go_sem]; exact ⟨VM.refA (j := 0) (t := 0) rfl, VM.refA (j := 1) (t := 1) rfl, vS, vS, vS, VM.eqv (by simp) (by simp)⟩) ⟨⟨_, rfl, OM.box _ _ ⟨VM.self (by simpa using Bd.of_rdK hv0_0), VM.self (by simpa using Bd.of_rdK hv0_1), vS, vS, VM.self (by simpa using Bd.of_rdK hv0_4), trivial⟩⟩, ⟨_, rfl, OM.box _ _ ⟨VM.self (by simpa using Bd.of_rdK hv1_0), VM.self (by simpa using Bd.of_rdK hv1_1), vS, vS, VM.self (by simpa using Bd.of_rdK hv1_4), trivial⟩⟩, trivial⟩
       ·rintro i2 _ o2 hi2 hw2 h ho2 as1 ob1 ⟨rfl, rfl⟩
        rw [portolanref03_SameFunc.b2] at h
        refine X_seq ?_
        refine X_sr (lx_ok γ) ?_
        simp -implicitDefEqProofs only [go_sem, seval, f1, hi1, f10, hi2, hq]
        refine X_cond (lx_ok γ) ?_
        simp -implicitDefEqProofs only [go_sem, seval, f1, hi1, f10, hi2, hq]
        refine X_skip ?_
        try simp -implicitDefEqProofs only [go_sem]
        refine X_seq ?_
        refine X_block ?_
        refine X_seq ?_
        refine X_drawn (lx_ok γ) [[], [], [0, 1], [0, 1, 2], [], [], [4, 5], [4, 5, 6], [0, 1, 2, 3, 4, 5, 6, 7], [0, 1, 2, 3, 4, 5, 6, 7, 8]] (fun i => match i with | _ => false) (by kernel_rfl) ?_
        obtain ⟨x7, f11, h⟩ := bindE h
        obtain ⟨f12, f13⟩ := ixL_nat f11
        have f14 : (0 : Int) ≤ (i2 : Int) := Int.natCast_nonneg _
        obtain ⟨x8, f15, h⟩ := bindE h
        obtain ⟨f16, f17⟩ := ixL_nat f15
        have f18 : (0 : Int) ≤ (i2 : Int) := Int.natCast_nonneg _
        obtain ⟨x9, f19, h⟩ := bindE h
        try simp -implicitDefEqProofs only [go_sem, seval, f1, hi1, f10, hi2, hq, f12, f13, f14, f16, f17, f18, cmpr, List.getD_cons_zero, List.getD_cons_succ, List.contains_cons, List.contains_nil, Nat.reduceBEq, Bool.false_or, Bool.or_false, Bool.true_or, Bool.or_true, beq_self_eq_true]
        refine callV_eq (portolanref03_SameIns_ok γ _ (by simp -implicitDefEqProofs only [go_sem, seval, f1, hi1, f10, hi2, hq, f12, f13, f14, f16, f17, f18]; try rfl) (by simp -implicitDefEqProofs only [go_sem, seval, f1, hi1, f10, hi2, hq, f12, f13, f14, f16, f17, f18]; try rfl) f19) rfl rfl ?_
        try simp -implicitDefEqProofs only [go_sem, seval, f1, hi1, f10, hi2, hq, f12, f13, f14, f16, f17, f18, cmpr, List.getD_cons_zero, List.getD_cons_succ, List.contains_cons, List.contains_nil, Nat.reduceBEq, Bool.false_or, Bool.or_false, Bool.true_or, Bool.or_true, beq_self_eq_true]
        cases f20 : x9
        ·rw [if_neg (nF f20)] at h
         refine X_cond (lx_ok γ) ?_
         simp -implicitDefEqProofs only [go_sem, seval, f1, hi1, f10, hi2, f20, hq, f12, f13, f14, f16, f17, f18]
         refine X_sr (lx_ok γ) ?_
         simp -implicitDefEqProofs only [go_sem, seval, f1, hi1, f10, hi2, f20, hq]
         obtain rfl := sI h
         have h := hr2 _ (ho2 (fun _ hs => nomatch hs))
         obtain rfl := sI h
         have h := hr1 _ (ho1 (fun _ hs => nomatch hs))
         obtain rfl := sI h
         refine X_ret ?_
         simp -implicitDefEqProofs only [go_sem, seval, f1, hi1, f10, hi2, f20, hq]
         exact Rt.mv0 (BaseR.refl hob) (by simp) (vS)
        ·rw [if_pos f20] at h
         refine X_cond (lx_ok γ) ?_
         simp -implicitDefEqProofs only [go_sem, seval, f1, hi1, f10, hi2, f20, hq, f12, f13, f14, f16, f17, f18]
         refine X_skip ?_
         try simp -implicitDefEqProofs only [go_sem]
         refine X_reg (lx_ok γ) ?_
         obtain rfl := sI h
         simp -implicitDefEqProofs only [go_sem, seval, f1, hi1, f10, hi2, f20, hq]
         refine kR_in rfl ?_ ⟨rfl, rfl⟩
         exact To.mv [(0, 0), (1, 0)] (BaseR.refl hob) (by simp) (by decide) (by simp only [go_sem]; exact ⟨VM.refA (j := 0) (t := 0) rfl, VM.refA (j := 1) (t := 1) rfl, vS, vS, vS, VM.eqv (by rw [hw2]) (by simp)⟩) ⟨⟨_, rfl, OM.box _ _ ⟨VM.self (by simpa using Bd.of_rdK hv0_0), VM.self (by simpa using Bd.of_rdK hv0_1), vS, vS, VM.self (by simpa using Bd.of_rdK hv0_4), trivial⟩⟩, ⟨_, rfl, OM.box _ _ ⟨VM.self (by simpa using Bd.of_rdK hv1_0), VM.self (by simpa using Bd.of_rdK hv1_1), vS, vS, VM.self (by simpa using Bd.of_rdK hv1_4), trivial⟩⟩, trivial⟩
       ·rintro i2 _ hi2 hn2 as1 ob1 ⟨rfl, rfl⟩
        refine X_seq ?_
        refine X_sr (lx_ok γ) ?_
        simp -implicitDefEqProofs only [go_sem, seval, f1, hi1, f10, hi2, hq]
        refine X_cond (lx_ok γ) ?_
        simp -implicitDefEqProofs only [go_sem, seval, f1, hi1, f10, hi2, hq]
        have h := hk2 _ (.inl hn2)
        refine X_exit ?_
        try simp -implicitDefEqProofs only [go_sem, ↓reduceIte, Nat.reduceEqDiff, reduceCtorEq]
        refine kJ_in ?_ ⟨h, rfl, rfl⟩
        exact To.mv [(0, 0), (1, 0)] (BaseR.refl hob) (by simp) (by decide) (by simp only [go_sem]; exact ⟨VM.refA (j := 0) (t := 0) rfl, VM.refA (j := 1) (t := 1) rfl, vS⟩) ⟨⟨_, rfl, OM.box _ _ ⟨VM.self (by simpa using Bd.of_rdK hv0_0), VM.self (by simpa using Bd.of_rdK hv0_1), vS, vS, VM.self (by simpa using Bd.of_rdK hv0_4), trivial⟩⟩, ⟨_, rfl, OM.box _ _ ⟨VM.self (by simpa using Bd.of_rdK hv1_0), VM.self (by simpa using Bd.of_rdK hv1_1), vS, vS, VM.self (by simpa using Bd.of_rdK hv1_4), trivial⟩⟩, trivial⟩
     ·rw [if_pos f10] at h
      refine X_cond (lx_ok γ) ?_
      simp -implicitDefEqProofs only [go_sem, seval, f1, hi1, f10, hq]
      refine X_sr (lx_ok γ) ?_
      simp -implicitDefEqProofs only [go_sem, seval, f1, hi1, f10, hq]
      obtain rfl := sI h
      have h := hr1 _ (ho1 (fun _ hs => nomatch hs))
      obtain rfl := sI h
      refine X_ret ?_
      simp -implicitDefEqProofs only [go_sem, seval, f1, hi1, f10, hq]
      exact Rt.mv0 (BaseR.refl hob) (by simp) (vS)
    ·rintro i1 _ hi1 hn1 as1 ob1 ⟨rfl, rfl⟩
     refine X_seq ?_
     refine X_sr (lx_ok γ) ?_
     simp -implicitDefEqProofs only [go_sem, seval, f1, hi1, hq]
     refine X_cond (lx_ok γ) ?_
     simp -implicitDefEqProofs only [go_sem, seval, f1, hi1, hq]
     have h := hk1 _ (.inl hn1)
     refine X_exit ?_
     try simp -implicitDefEqProofs only [go_sem, ↓reduceIte, Nat.reduceEqDiff, reduceCtorEq]
     refine kJ_in ?_ ⟨h, rfl, rfl⟩
     exact To.mv0 (BaseR.refl hob) (by simp) trivial
  ·rw [if_pos f1] at h
   refine X_cond (lx_ok γ) ?_
   simp -implicitDefEqProofs only [go_sem, seval, f1, hq]
   refine X_sr (lx_ok γ) ?_
   simp -implicitDefEqProofs only [go_sem, seval, f1, hq]
   obtain rfl := sI h
   refine X_ret ?_
   simp -implicitDefEqProofs only [go_sem, seval, f1, hq]
   exact Rt.mv0 (BaseR.refl hob) (by simp) (vS)
 ·refine X_reg (lx_ok γ) ?_
  obtain ⟨x10, f21, h⟩ := bindE h
  simp -implicitDefEqProofs only [go_sem, seval, hq]
  refine callV_eq (portolanref01_Ints_ok γ _ (by first | exact rdK_app hv0_0 | exact hv0_0) (by first | exact rdK_app hv1_0 | exact hv1_0) f21) rfl rfl ?_
  cases f22 : x10
  ·rw [if_neg (nF f22)] at h
   simp -implicitDefEqProofs only [go_sem, seval, f22, hq]
   refine kJ_in ?_ ⟨true, h, rfl, rfl⟩
   exact To.mv [(0, 0), (1, 0)] (BaseR.refl hob) (by simp) (by decide) (by simp only [go_sem]; exact ⟨VM.refA (j := 0) (t := 0) rfl, VM.refA (j := 1) (t := 1) rfl, vS⟩) ⟨⟨_, rfl, OM.box _ _ ⟨VM.self (by simpa using Bd.of_rdK hv0_0), VM.self (by simpa using Bd.of_rdK hv0_1), vS, vS, VM.self (by simpa using Bd.of_rdK hv0_4), trivial⟩⟩, ⟨_, rfl, OM.box _ _ ⟨VM.self (by simpa using Bd.of_rdK hv1_0), VM.self (by simpa using Bd.of_rdK hv1_1), vS, vS, VM.self (by simpa using Bd.of_rdK hv1_4), trivial⟩⟩, trivial⟩
  ·rw [if_pos f22] at h
   obtain ⟨x11, f23, h⟩ := bindE h
   simp -implicitDefEqProofs only [go_sem, seval, f22, hq]
   refine callV_eq (portolanref01_Ints_ok γ _ (by first | exact rdK_app hv0_1 | exact hv0_1) (by first | exact rdK_app hv1_1 | exact hv1_1) f23) rfl rfl ?_
   cases f24 : x11
   ·rw [if_neg (nF f24)] at h
    simp -implicitDefEqProofs only [go_sem, seval, f22, f24, hq]
    refine kJ_in ?_ ⟨true, h, rfl, rfl⟩
    exact To.mv [(0, 0), (1, 0)] (BaseR.refl hob) (by simp) (by decide) (by simp only [go_sem]; exact ⟨VM.refA (j := 0) (t := 0) rfl, VM.refA (j := 1) (t := 1) rfl, vS⟩) ⟨⟨_, rfl, OM.box _ _ ⟨VM.self (by simpa using Bd.of_rdK hv0_0), VM.self (by simpa using Bd.of_rdK hv0_1), vS, vS, VM.self (by simpa using Bd.of_rdK hv0_4), trivial⟩⟩, ⟨_, rfl, OM.box _ _ ⟨VM.self (by simpa using Bd.of_rdK hv1_0), VM.self (by simpa using Bd.of_rdK hv1_1), vS, vS, VM.self (by simpa using Bd.of_rdK hv1_4), trivial⟩⟩, trivial⟩
   ·rw [if_pos f24] at h
    cases f25 : (a0.Params != a1.Params)
    ·rw [if_neg (nF f25)] at h
     cases f26 : (a0.Result != a1.Result)
     ·rw [if_neg (nF f26)] at h
      simp -implicitDefEqProofs only [go_sem, seval, f22, f24, f25, f26, hq]
      refine kJ_in ?_ ⟨((List.length a0.Blocks : Int) != (List.length a1.Blocks : Int)), h, rfl, rfl⟩
      exact To.mv [(0, 0), (1, 0)] (BaseR.refl hob) (by simp) (by decide) (by simp only [go_sem]; exact ⟨VM.refA (j := 0) (t := 0) rfl, VM.refA (j := 1) (t := 1) rfl, vS⟩) ⟨⟨_, rfl, OM.box _ _ ⟨VM.self (by simpa using Bd.of_rdK hv0_0), VM.self (by simpa using Bd.of_rdK hv0_1), vS, vS, VM.self (by simpa using Bd.of_rdK hv0_4), trivial⟩⟩, ⟨_, rfl, OM.box _ _ ⟨VM.self (by simpa using Bd.of_rdK hv1_0), VM.self (by simpa using Bd.of_rdK hv1_1), vS, vS, VM.self (by simpa using Bd.of_rdK hv1_4), trivial⟩⟩, trivial⟩
     ·rw [if_pos f26] at h
      simp -implicitDefEqProofs only [go_sem, seval, f22, f24, f25, f26, hq]
      refine kJ_in ?_ ⟨true, h, rfl, rfl⟩
      exact To.mv [(0, 0), (1, 0)] (BaseR.refl hob) (by simp) (by decide) (by simp only [go_sem]; exact ⟨VM.refA (j := 0) (t := 0) rfl, VM.refA (j := 1) (t := 1) rfl, vS⟩) ⟨⟨_, rfl, OM.box _ _ ⟨VM.self (by simpa using Bd.of_rdK hv0_0), VM.self (by simpa using Bd.of_rdK hv0_1), vS, vS, VM.self (by simpa using Bd.of_rdK hv0_4), trivial⟩⟩, ⟨_, rfl, OM.box _ _ ⟨VM.self (by simpa using Bd.of_rdK hv1_0), VM.self (by simpa using Bd.of_rdK hv1_1), vS, vS, VM.self (by simpa using Bd.of_rdK hv1_4), trivial⟩⟩, trivial⟩
    ·rw [if_pos f25] at h
     simp -implicitDefEqProofs only [go_sem, seval, f22, f24, f25, hq]
     refine kJ_in ?_ ⟨true, h, rfl, rfl⟩
     exact To.mv [(0, 0), (1, 0)] (BaseR.refl hob) (by simp) (by decide) (by simp only [go_sem]; exact ⟨VM.refA (j := 0) (t := 0) rfl, VM.refA (j := 1) (t := 1) rfl, vS⟩) ⟨⟨_, rfl, OM.box _ _ ⟨VM.self (by simpa using Bd.of_rdK hv0_0), VM.self (by simpa using Bd.of_rdK hv0_1), vS, vS, VM.self (by simpa using Bd.of_rdK hv0_4), trivial⟩⟩, ⟨_, rfl, OM.box _ _ ⟨VM.self (by simpa using Bd.of_rdK hv1_0), VM.self (by simpa using Bd.of_rdK hv1_1), vS, vS, VM.self (by simpa using Bd.of_rdK hv1_4), trivial⟩⟩, trivial⟩
end Go.Pf
end
section
set_option maxRecDepth 100000
namespace Go.Pf
open Go Go.Ab Go.Pp Go.Proofs Go.Proofs.S04
attribute [local go_sem] Lxτ Lxγ gam0 Int.toNat_natCast tau3 tau4 tau22 tau24 tau28 tau29 tau31 tau35 tau42 tau44 eI eB eS e_Ins e_Block e_Func e_Prog e_code_writer e_code_reader e_Edge
set_option maxHeartbeats 1000000 in
theorem portolanref03_Same_ok (γ : GT) (ob : OT) {a0 : Prog} {v0_0 : V} {a1 : Prog} {v1_0 : V} (hv0_0 : rdK (getO ob) 5 v0_0 = some (List.map e_Func a0.Funcs)) (hv1_0 : rdK (getO ob) 5 v1_0 = some (List.map e_Func a1.Funcs)) {r : Bool} (h : portolanref03_Same a0 a1 = some r) :
  Valid (Lx γ) 28 [V.agg [v0_0], V.agg [v1_0]] ob (vbool r) ob := by
 refine valid_X (lx_ok γ) (fn := Tryd.f28) (rs := [.tmp 4]) Tryd.func28 (by kernel_rfl) rfl rfl Tryd.ntmps28 rfl (by simp) fun hb hob => ?_
 have hq := And.intro (rd4 hv0_0) (rd4 hv1_0)
 rw [portolanref03_Same] at h
 refine X_sr (lx_ok γ) ?_
 simp -implicitDefEqProofs only [go_sem, seval, hq]
 refine X_seq ?_
 refine X_sr (lx_ok γ) ?_
 simp -implicitDefEqProofs only [go_sem, seval, hq]
 cases f1 : ((List.length a0.Funcs : Int) != (List.length a1.Funcs : Int))
 ·rw [if_neg (nF f1)] at h
  refine X_cond (lx_ok γ) ?_
  simp -implicitDefEqProofs only [go_sem, seval, f1, hq]
  refine X_skip ?_
  try simp -implicitDefEqProofs only [go_sem]
  refine X_seq ?_
  refine X_sr (lx_ok γ) ?_
  simp -implicitDefEqProofs only [go_sem, seval, f1, hq]
  refine X_jq (J := fun as1 ob1 => portolanref03_Same.k1 = some r ∧ [] = as1 ∧ ob = ob1) ?_ ?_
  ·rintro as1 ob1 ⟨h, rfl, rfl⟩
   rw [portolanref03_Same.k1] at h
   simp -implicitDefEqProofs only [go_sem, seval, f1, hq]
   refine X_sr (lx_ok γ) ?_
   simp -implicitDefEqProofs only [go_sem, seval, f1, hq]
   obtain rfl := sI h
   refine X_ret ?_
   simp -implicitDefEqProofs only [go_sem, seval, f1, hq]
   exact Rt.mv1 (BaseR.refl hob) (by simp) (vS)
  ·refine X_block ?_
   obtain ⟨lr1, hl1, hk1, hr1⟩ := aft2 h
   refine X_forN hl1 (fun (i1 : Nat) (s : Unit) as1 ob1 => [(2, V.ref ob.length 0), (3, V.ref (ob.length + 1) 0), (5, vint .i64 (i1 : Int))] = as1 ∧ ob ++ [some (O.box [v0_0]), some (O.box [v1_0])] = ob1) ⟨_, _, ?_, rfl, rfl⟩ ?_ ?_
   ·exact To.mv [(0, 0), (1, 0)] (BaseR.refl hob) (by simp) (by decide) (by simp only [go_sem]; exact ⟨VM.refA (j := 0) (t := 0) rfl, VM.refA (j := 1) (t := 1) rfl, VM.eqv (by simp) (by simp)⟩) ⟨⟨_, rfl, OM.box _ _ ⟨VM.self (by simpa using Bd.of_rdK hv0_0), trivial⟩⟩, ⟨_, rfl, OM.box _ _ ⟨VM.self (by simpa using Bd.of_rdK hv1_0), trivial⟩⟩, trivial⟩
   ·rintro i1 _ o1 hi1 hw1 h ho1 as1 ob1 ⟨rfl, rfl⟩
    rw [portolanref03_Same.b1] at h
    refine X_seq ?_
    refine X_sr (lx_ok γ) ?_
    simp -implicitDefEqProofs only [go_sem, seval, f1, hi1, hq]
    refine X_cond (lx_ok γ) ?_
    simp -implicitDefEqProofs only [go_sem, seval, f1, hi1, hq]
    refine X_skip ?_
    try simp -implicitDefEqProofs only [go_sem]
    refine X_seq ?_
    refine X_block ?_
    refine X_seq ?_
    refine X_drawn (lx_ok γ) [[], [0], [], [0, 1, 2], [0, 1, 2, 3], [], [5], [], [5, 6, 7], [5, 6, 7, 8], [0, 1, 2, 3, 4, 5, 6, 7, 8, 9], [0, 1, 2, 3, 4, 5, 6, 7, 8, 9, 10]] (fun i => match i with | _ => false) (by kernel_rfl) ?_
    obtain ⟨x2, f2, h⟩ := bindE h
    obtain ⟨f3, f4⟩ := ixL_nat f2
    have f5 : (0 : Int) ≤ (i1 : Int) := Int.natCast_nonneg _
    obtain ⟨x3, f6, h⟩ := bindE h
    obtain ⟨f7, f8⟩ := ixL_nat f6
    have f9 : (0 : Int) ≤ (i1 : Int) := Int.natCast_nonneg _
    obtain ⟨x4, f10, h⟩ := bindE h
    try simp -implicitDefEqProofs only [go_sem, seval, f1, hi1, hq, f3, f4, f5, f7, f8, f9, cmpr, List.getD_cons_zero, List.getD_cons_succ, List.contains_cons, List.contains_nil, Nat.reduceBEq, Bool.false_or, Bool.or_false, Bool.true_or, Bool.or_true, beq_self_eq_true]
    refine callV_eq (portolanref03_SameFunc_ok γ _ (by simp -implicitDefEqProofs only [go_sem, seval, f1, hi1, hq, f3, f4, f5, f7, f8, f9]; try rfl) (by simp -implicitDefEqProofs only [go_sem, seval, f1, hi1, hq, f3, f4, f5, f7, f8, f9]; try rfl) (by simp -implicitDefEqProofs only [go_sem, seval, f1, hi1, hq, f3, f4, f5, f7, f8, f9]; try rfl) (by simp -implicitDefEqProofs only [go_sem, seval, f1, hi1, hq, f3, f4, f5, f7, f8, f9]; try rfl) (by simp -implicitDefEqProofs only [go_sem, seval, f1, hi1, hq, f3, f4, f5, f7, f8, f9]; try rfl) (by simp -implicitDefEqProofs only [go_sem, seval, f1, hi1, hq, f3, f4, f5, f7, f8, f9]; try rfl) f10) rfl rfl ?_
    try simp -implicitDefEqProofs only [go_sem, seval, f1, hi1, hq, f3, f4, f5, f7, f8, f9, cmpr, List.getD_cons_zero, List.getD_cons_succ, List.contains_cons, List.contains_nil, Nat.reduceBEq, Bool.false_or, Bool.or_false, Bool.true_or, Bool.or_true, beq_self_eq_true]
    cases f11 : x4
    ·rw [if_neg (nF f11)] at h
     refine X_cond (lx_ok γ) ?_
     simp -implicitDefEqProofs only [go_sem, seval, f1, hi1, f11, hq, f3, f4, f5, f7, f8, f9]
     refine X_sr (lx_ok γ) ?_
     simp -implicitDefEqProofs only [go_sem, seval, f1, hi1, f11, hq]
     obtain rfl := sI h
     have h := hr1 _ (ho1 (fun _ hs => nomatch hs))
     obtain rfl := sI h
     refine X_ret ?_
     simp -implicitDefEqProofs only [go_sem, seval, f1, hi1, f11, hq]
     exact Rt.mv0 (BaseR.refl hob) (by simp) (vS)
    ·rw [if_pos f11] at h
     refine X_cond (lx_ok γ) ?_
     simp -implicitDefEqProofs only [go_sem, seval, f1, hi1, f11, hq, f3, f4, f5, f7, f8, f9]
     refine X_skip ?_
     try simp -implicitDefEqProofs only [go_sem]
     refine X_reg (lx_ok γ) ?_
     obtain rfl := sI h
     simp -implicitDefEqProofs only [go_sem, seval, f1, hi1, f11, hq]
     refine kR_in rfl ?_ ⟨rfl, rfl⟩
     exact To.mv [(0, 0), (1, 0)] (BaseR.refl hob) (by simp) (by decide) (by simp only [go_sem]; exact ⟨VM.refA (j := 0) (t := 0) rfl, VM.refA (j := 1) (t := 1) rfl, VM.eqv (by rw [hw1]) (by simp)⟩) ⟨⟨_, rfl, OM.box _ _ ⟨VM.self (by simpa using Bd.of_rdK hv0_0), trivial⟩⟩, ⟨_, rfl, OM.box _ _ ⟨VM.self (by simpa using Bd.of_rdK hv1_0), trivial⟩⟩, trivial⟩
   ·rintro i1 _ hi1 hn1 as1 ob1 ⟨rfl, rfl⟩
    refine X_seq ?_
    refine X_sr (lx_ok γ) ?_
    simp -implicitDefEqProofs only [go_sem, seval, f1, hi1, hq]
    refine X_cond (lx_ok γ) ?_
    simp -implicitDefEqProofs only [go_sem, seval, f1, hi1, hq]
    have h := hk1 _ (.inl hn1)
    refine X_exit ?_
    try simp -implicitDefEqProofs only [go_sem, ↓reduceIte, Nat.reduceEqDiff, reduceCtorEq]
    refine kJ_in ?_ ⟨h, rfl, rfl⟩
    exact To.mv0 (BaseR.refl hob) (by simp) trivial
 ·rw [if_pos f1] at h
  refine X_cond (lx_ok γ) ?_
  simp -implicitDefEqProofs only [go_sem, seval, f1, hq]
  refine X_sr (lx_ok γ) ?_
  simp -implicitDefEqProofs only [go_sem, seval, f1, hq]
  obtain rfl := sI h
  refine X_ret ?_
  simp -implicitDefEqProofs only [go_sem, seval, f1, hq]
  exact Rt.mv0 (BaseR.refl hob) (by simp) (vS)
end Go.Pf
end
section
set_option maxRecDepth 100000
namespace Go.Pf
open Go Go.Ab Go.Pp Go.Proofs Go.Proofs.S04
attribute [local go_sem] Lxτ Lxγ gam0 Int.toNat_natCast tau3 tau4 tau5 tau22 tau24 tau28 tau29 tau31 tau32 tau35 tau42 tau44 tau45 eI eB eS e_Ins e_Block e_Func e_Prog e_code_writer e_code_reader e_Edge
set_option maxHeartbeats 1000000 in
theorem portolanlaw04_ShapeBytes_ok (γ : GT) (ob : OT) {a0 : Prog} {r : Bool} (h : portolanlaw04_ShapeBytes a0 = some r) :
  Valid (Lx γ) 7 [V.agg [V.tr (.sl 5 false (List.map e_Func a0.Funcs))]] ob (vbool r) ob := by
 refine valid_X (lx_ok γ) (fn := Tryd.f7) (rs := [.tmp 2]) Tryd.func7 (by kernel_rfl) rfl rfl Tryd.ntmps7 rfl (by simp) fun hb hob => ?_
 rw [portolanlaw04_ShapeBytes] at h
 refine X_sr (lx_ok γ) ?_
 simp -implicitDefEqProofs only [go_sem, seval]
 refine X_seq ?_
 refine X_sr (lx_ok γ) ?_
 obtain ⟨x1, f1, h⟩ := bindE h
 simp -implicitDefEqProofs only [go_sem, seval]
 refine callV_eq (portolanlaw04_alive_ok γ _  f1) rfl rfl ?_
 simp -implicitDefEqProofs only [go_sem, seval]
 cases f2 : x1
 ·rw [if_neg (nF f2)] at h
  refine X_cond (lx_ok γ) ?_
  simp -implicitDefEqProofs only [go_sem, seval, f2]
  refine X_sr (lx_ok γ) ?_
  simp -implicitDefEqProofs only [go_sem, seval, f2]
  obtain rfl := sI h
  refine X_ret ?_
  simp -implicitDefEqProofs only [go_sem, seval, f2]
  exact Rt.mv0 (BaseR.refl hob) (by simp) (vS)
 ·rw [if_pos f2] at h
  refine X_cond (lx_ok γ) ?_
  simp -implicitDefEqProofs only [go_sem, seval, f2]
  refine X_skip ?_
  try simp -implicitDefEqProofs only [go_sem]
  refine X_seq ?_
  refine X_seq ?_
  refine X_jq (J := fun as1 ob1 => ∃ (x3 : Bool), portolanlaw04_ShapeBytes.j1 a0 x3 = some r ∧ [(1, V.ref ob.length 0), (15, vbool x3)] = as1 ∧ ob ++ [some (O.box [V.tr (.sl 5 false (List.map e_Func a0.Funcs))])] = ob1) ?_ ?_
  ·rintro as1 ob1 ⟨x3, h, rfl, rfl⟩
   rw [portolanlaw04_ShapeBytes.j1] at h
   simp -implicitDefEqProofs only [go_sem, seval, f2]
   cases f3 : x3
   ·rw [if_neg (nF f3)] at h
    refine X_cond (lx_ok γ) ?_
    simp -implicitDefEqProofs only [go_sem, seval, f2, f3]
    refine X_skip ?_
    try simp -implicitDefEqProofs only [go_sem]
    refine X_sr (lx_ok γ) ?_
    obtain ⟨x4, f4, h⟩ := bindE h
    simp -implicitDefEqProofs only [go_sem, seval, f2, f3]
    refine callV_eq (code_Encode_ok γ _ (by simp -implicitDefEqProofs only [go_sem, seval, f2, f3]; try rfl) f4) rfl rfl ?_
    simp -implicitDefEqProofs only [go_sem, seval, f2, f3]
    refine X_sr (lx_ok γ) ?_
    obtain ⟨x5, f5, h⟩ := bindE h
    simp -implicitDefEqProofs only [go_sem, seval, f2, f3]
    refine callV_eq (code_Decode_ok γ _  f5) rfl rfl ?_
    simp -implicitDefEqProofs only [go_sem, seval, f2, f3]
    refine X_sr (lx_ok γ) ?_
    cases f6 : (x4.2 == 0)
    ·rw [if_neg (nF f6)] at h
     simp -implicitDefEqProofs only [go_sem, seval, f2, f3, f6]
     obtain rfl := sI h
     refine X_ret ?_
     simp -implicitDefEqProofs only [go_sem, seval, f2, f3, f6]
     exact Rt.mv0 (BaseR.refl hob) (by simp) (vS)
    ·rw [if_pos f6] at h
     cases f7 : (x5.2 == 0)
     ·rw [if_neg (nF f7)] at h
      simp -implicitDefEqProofs only [go_sem, seval, f2, f3, f6, f7]
      obtain rfl := sI h
      refine X_ret ?_
      simp -implicitDefEqProofs only [go_sem, seval, f2, f3, f6, f7]
      exact Rt.mv0 (BaseR.refl hob) (by simp) (vS)
     ·rw [if_pos f7] at h
      obtain ⟨x6, f8, h⟩ := bindE h
      simp -implicitDefEqProofs only [go_sem, seval, f2, f3, f6, f7]
      refine callV_eq (portolanref03_Same_ok γ _ (by simp -implicitDefEqProofs only [go_sem, seval, f2, f3, f6, f7]; try rfl) (by simp -implicitDefEqProofs only [go_sem, seval, f2, f3, f6, f7]; try rfl) f8) rfl rfl ?_
      cases f9 : x6
      ·rw [if_neg (nF f9)] at h
       simp -implicitDefEqProofs only [go_sem, seval, f2, f3, f6, f7, f9]
       obtain rfl := sI h
       refine X_ret ?_
       simp -implicitDefEqProofs only [go_sem, seval, f2, f3, f6, f7, f9]
       exact Rt.mv0 (BaseR.refl hob) (by simp) (vS)
      ·rw [if_pos f9] at h
       obtain ⟨x7, f10, h⟩ := bindE h
       simp -implicitDefEqProofs only [go_sem, seval, f2, f3, f6, f7, f9]
       refine callV_eq (shape_Check_ok γ _  f10) rfl rfl ?_
       simp -implicitDefEqProofs only [go_sem, seval, f2, f3, f6, f7, f9]
       obtain rfl := sI h
       refine X_ret ?_
       simp -implicitDefEqProofs only [go_sem, seval, f2, f3, f6, f7, f9]
       exact Rt.mv0 (BaseR.refl hob) (by simp) (vS)
   ·rw [if_pos f3] at h
    refine X_cond (lx_ok γ) ?_
    simp -implicitDefEqProofs only [go_sem, seval, f2, f3]
    refine X_sr (lx_ok γ) ?_
    simp -implicitDefEqProofs only [go_sem, seval, f2, f3]
    obtain rfl := sI h
    refine X_ret ?_
    simp -implicitDefEqProofs only [go_sem, seval, f2, f3]
    exact Rt.mv0 (BaseR.refl hob) (by simp) (vS)
  ·refine X_reg (lx_ok γ) ?_
   obtain ⟨x8, f11, h⟩ := bindE h
   simp -implicitDefEqProofs only [go_sem, seval, f2]
   refine callV_eq (portolanref03_Great_ok γ _ (by simp -implicitDefEqProofs only [go_sem, seval, f2]; try rfl) f11) rfl rfl ?_
   cases f12 : x8
   ·rw [if_neg (nF f12)] at h
    obtain ⟨x9, f13, h⟩ := bindE h
    simp -implicitDefEqProofs only [go_sem, seval, f2, f12]
    refine callV_eq (shape_Check_ok γ _  f13) rfl rfl ?_
    simp -implicitDefEqProofs only [go_sem, seval, f2, f12]
    refine kJ_in ?_ ⟨(x9 != 0), h, rfl, rfl⟩
    exact To.mv [(0, 0)] (BaseR.refl hob) (by simp) (by decide) (by simp only [go_sem]; exact ⟨VM.refA (j := 0) (t := 0) rfl, vS⟩) ⟨⟨_, rfl, OM.box _ _ ⟨vS, trivial⟩⟩, trivial⟩
   ·rw [if_pos f12] at h
    simp -implicitDefEqProofs only [go_sem, seval, f2, f12]
    refine kJ_in ?_ ⟨true, h, rfl, rfl⟩
    exact To.mv [(0, 0)] (BaseR.refl hob) (by simp) (by decide) (by simp only [go_sem]; exact ⟨VM.refA (j := 0) (t := 0) rfl, vS⟩) ⟨⟨_, rfl, OM.box _ _ ⟨vS, trivial⟩⟩, trivial⟩
end Go.Pf
end
