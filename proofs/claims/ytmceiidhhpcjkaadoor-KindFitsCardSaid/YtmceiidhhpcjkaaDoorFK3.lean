/- Each function computes what its plain one says, part 3 -/
import Derived.Laws.AppendOwn
import Derived.Laws.Rows
import Derived.Lib.Walk
import Derived.OpenShut
import Derived.ProofKit
import Derived.WalkKit
import Derived.Test.YtmceiidhhpcjkaaDoorFK2
set_option linter.all false
section
/- The fixed fact of the laws of kinds: its trees. -/
namespace Go.Pf
open Go Go.Ab Go.Pp Go.Proofs Go.Proofs.S08
set_option maxRecDepth 100000
theorem SameW.trans {a b c : World} (h : SameW a b) (k : SameW b c) : SameW a c :=
  ⟨k.os.trans h.os, k.tape.trans h.tape, k.output.trans h.output, Nat.le_trans h.size k.size, fun i hi => (k.block i (Nat.lt_of_lt_of_le hi h.size)).trans (h.block i hi)⟩
theorem al_get (w : World) (o : Obj) (i : Nat) : (w.alloc o).heap[i]? = if i = w.heap.size then some o else w.heap[i]? := by
  simp only [World.alloc, Array.getElem?_push]
theorem al_size (w : World) (o : Obj) : (w.alloc o).heap.size = w.heap.size + 1 := by simp only [World.alloc, Array.size_push]
theorem SameW.alloc (w : World) (o : Obj) : SameW w (w.alloc o) := ⟨rfl, rfl, rfl, by rw [al_size]; omega, fun b hb => by rw [al_get, if_neg (by omega)]⟩
theorem Glob.same {w w' : World} {γ : GT} (hg : Glob γ (memOf w)) (h : SameW w w') : Glob γ (memOf w') := by
  exact hg.mono fun b x hb => by
    have hlt : b < w.heap.size := (Array.getElem?_eq_some_iff.1 (show w.heap[b]? = some x from hb)).1
    exact (h.block b hlt).trans hb

def insC (x : Ins) : List Value := [.int .i64 x.Op, .int .i64 x.D, .int .i64 x.A, .int .i64 x.B, .int .i64 x.N, .int .i64 x.M, .slice none 0 0]
theorem flat7 : ∀ (code : List Ins) (i j : Nat) (x : Ins), code[i]? = some x → j < 7 → (code.flatMap insC)[i * 7 + j]? = (insC x)[j]?
  | y :: r, 0, j, x, h, hj => by
    simp at h; subst h
    rw [List.flatMap_cons, List.getElem?_append_left (by simp [insC]; omega)]
    simp
  | y :: r, i + 1, j, x, h, hj => by
    rw [List.flatMap_cons, List.getElem?_append_right (by simp [insC]; omega)]
    have := flat7 r i j x (by simpa using h) hj
    rw [← this]
    congr 1
    simp [insC]; omega
  | [], i, j, x, h, hj => by simp at h

def fT (code : List Ins) : Func := ⟨[0, 1, 2], [-1, -1, 1], 0, 0, [⟨code⟩]⟩
structure At (w : World) (bF bB bC bK bA o c : Nat) (code : List Ins) : Prop where
  hf : w.heap[bF]? = some (.cells #[.slice (some ⟨bK, 0, none⟩) 3 3, .slice (some ⟨bA, 0, none⟩) 3 3, .int .i64 0, .int .i64 0, .slice (some ⟨bB, 0, none⟩) 1 1] 35)
  hb : w.heap[bB]? = some (.cells #[.slice (some ⟨bC, o, none⟩) code.length c] 38)
  hc : ∃ arr, w.heap[bC]? = some (.cells arr 27) ∧ ∀ (k : Nat) (v : Value), (code.flatMap insC)[k]? = some v → arr[o + k]? = some v
  hk : w.heap[bK]? = some (.cells #[.int .i64 0, .int .i64 1, .int .i64 2] 3)
  ha : w.heap[bA]? = some (.cells #[.int .i64 (-1), .int .i64 (-1), .int .i64 1] 3)
  hle : code.length ≤ c
  args : ∀ x ∈ code, x.Args = []
theorem At.same {w w' : World} {bF bB bC bK bA o c : Nat} {code : List Ins} (h : At w bF bB bC bK bA o c code) (hs : SameW w w') : At w' bF bB bC bK bA o c code := by
  have lt : ∀ {b : Nat} {y : Obj}, w.heap[b]? = some y → w'.heap[b]? = some y := fun {b y} hb => by rw [hs.block b (Array.getElem?_eq_some_iff.1 hb).1]; exact hb
  obtain ⟨arr, h1, h2⟩ := h.hc
  exact ⟨lt h.hf, lt h.hb, ⟨arr, lt h1, h2⟩, lt h.hk, lt h.ha, h.hle, h.args⟩

theorem TR_arr {M : Mem} {b : Nat} {arr : Array Value} {T : TypeId} {fr : Nat × Nat} {k n : Nat} {es : List (List Tr)} (hM : M b = some (.cells arr T fr)) (hn : es.length = n) (hk : ∀ e ∈ es, e.length = k) (hl : n * k = arr.size)
    (hT : ∀ i e j t, es[i]? = some e → e[j]? = some t → TR M t (arr.getD (i * k + j) undef)) : TR M (.sl k false es) (.slice (some ⟨b, 0, none⟩) n n) := by
  subst hn
  refine .sl k false es b 0 es.length (fun i j => arr.getD (i * k + j) undef) (by simp) (Nat.le_refl _) hk (fun i e j t hi hj => ?_) hT
  have hil := (List.getElem?_eq_some_iff.1 hi).1
  have hjl := (List.getElem?_eq_some_iff.1 hj).1
  have hke := hk e (List.mem_of_getElem? hi)
  have hlt : i * k + j < arr.size := by
    rw [← hl]
    have : (i + 1) * k ≤ es.length * k := Nat.mul_le_mul_right k hil
    rw [Nat.add_mul] at this; omega
  simp only [Mem.cell, hM, Nat.zero_add]
  rw [Array.getElem?_eq_getElem hlt]
  simp [Array.getD, hlt]

theorem At.tree {w : World} {bF bB bC bK bA o c : Nat} {code : List Ins} (h : At w bF bB bC bK bA o c code) : TR (memOf w) (.sl 5 false (List.map e_Func [fT code])) (.slice (some ⟨bF, 0, none⟩) 1 1) := by
  have a1 : TR (memOf w) (.sl 1 false (List.map (eI .i64) [0, 1, 2])) (.slice (some ⟨bK, 0, none⟩) 3 3) := TR_arr (M := memOf w) h.hk rfl (by simp [eI]) rfl (fun i e j t hi hj => by
    rcases i with _ | _ | _ | i <;> simp [eI] at hi
    all_goals subst hi
    all_goals rcases j with _ | j <;> simp at hj
    all_goals subst hj
    all_goals exact .lit _ rfl)
  have a2 : TR (memOf w) (.sl 1 false (List.map (eI .i64) [-1, -1, 1])) (.slice (some ⟨bA, 0, none⟩) 3 3) := TR_arr (M := memOf w) h.ha rfl (by simp [eI]) rfl (fun i e j t hi hj => by
    rcases i with _ | _ | _ | i <;> simp [eI] at hi
    all_goals subst hi
    all_goals rcases j with _ | j <;> simp at hj
    all_goals subst hj
    all_goals exact .lit _ rfl)
  have a3 : TR (memOf w) (.sl 7 false (List.map e_Ins code)) (.slice (some ⟨bC, o, none⟩) code.length c) := by
    obtain ⟨arr, h1, h2⟩ := h.hc
    have key : ∀ (i : Nat) (e : List Tr) (j : Nat) (t : Tr), (List.map e_Ins code)[i]? = some e → e[j]? = some t → ∃ v, arr[o + i * 7 + j]? = some v ∧ TR (memOf w) t v := by
      intro i e j t hi hj
      rw [List.getElem?_map, Option.map_eq_some_iff] at hi
      obtain ⟨x, hx, rfl⟩ := hi
      have hargs := h.args x (List.mem_of_getElem? hx)
      have hj7 : j < 7 := by have := (List.getElem?_eq_some_iff.1 hj).1; simpa [e_Ins] using this
      have hf := flat7 code i j x hx hj7
      have hsome : ∃ v, (insC x)[j]? = some v ∧ TR (memOf w) t v := by
        rcases j with _ | _ | _ | _ | _ | _ | _ | j
        all_goals first | omega | (simp [e_Ins, hargs] at hj; subst hj)
        all_goals first | exact ⟨_, rfl, .lit _ rfl⟩ | exact ⟨_, rfl, .nil _ _ _ _ (by simp)⟩
      obtain ⟨v, hv, hT⟩ := hsome
      refine ⟨v, ?_, hT⟩
      rw [hv] at hf
      rw [Nat.add_assoc]
      exact h2 _ v hf
    have hc := TR.sl (M := memOf w) 7 false (List.map e_Ins code) bC o c (fun i j => arr.getD (o + i * 7 + j) undef) (by simp) (by simpa using h.hle) (by simp [e_Ins]) (fun i e j t hi hj => by
        obtain ⟨v, hv, hT⟩ := key i e j t hi hj
        have : arr.getD (o + i * 7 + j) undef = v := by simp [Array.getD_eq_getD_getElem?, hv]
        rw [this]
        simp only [Mem.cell, memOf, h1]
        exact hv) (fun i e j t hi hj => by
        obtain ⟨v, hv, hT⟩ := key i e j t hi hj
        have : arr.getD (o + i * 7 + j) undef = v := by simp [Array.getD_eq_getD_getElem?, hv]
        rw [this]; exact hT)
    simpa using hc
  have a4 : TR (memOf w) (.sl 1 false (List.map e_Block [⟨code⟩])) (.slice (some ⟨bB, 0, none⟩) 1 1) := TR_arr (M := memOf w) h.hb rfl (by simp [e_Block]) rfl (fun i e j t hi hj => by
    rcases i with _ | i <;> simp [e_Block] at hi
    subst hi
    rcases j with _ | j <;> simp at hj
    subst hj; exact a3)
  exact TR_arr (M := memOf w) h.hf rfl (by simp [e_Func]) rfl (fun i e j t hi hj => by
    rcases i with _ | i <;> simp [e_Func, fT] at hi
    subst hi
    rcases j with _ | _ | _ | _ | _ | j <;> simp at hj
    all_goals subst hj
    · exact a1
    · exact a2
    · exact .lit _ rfl
    · exact .lit _ rfl
    · exact a4)
def codeF : List Ins := [⟨10, 1, 0, 0, 0, 2, []⟩, ⟨15, 2, 1, 0, 0, 0, []⟩, ⟨17, 0, 2, 0, 0, 0, []⟩, ⟨23, 0, 0, 0, 0, 0, []⟩]
def codeT : List Ins := [⟨10, 1, 0, 0, 0, 2, []⟩, ⟨15, 2, 1, 0, 0, 0, []⟩, ⟨7, 1, 0, 0, 0, 0, []⟩, ⟨17, 0, 2, 0, 0, 0, []⟩, ⟨23, 0, 0, 0, 0, 0, []⟩]
def codeP : List Ins := [⟨15, 2, 1, 0, 0, 0, []⟩, ⟨17, 0, 2, 0, 0, 0, []⟩, ⟨23, 0, 0, 0, 0, 0, []⟩]
def codeQ : List Ins := [⟨10, 1, 0, 0, 0, 2, []⟩, ⟨2, 2, 1, 0, 0, 0, []⟩, ⟨17, 0, 2, 0, 0, 0, []⟩, ⟨23, 0, 0, 0, 0, 0, []⟩]
theorem plainF : kind_Check ⟨[fT codeF]⟩ = some 0 := by decide +kernel
theorem plainT : kind_Check ⟨[fT codeT]⟩ = some 8 := by decide +kernel
theorem plainP : kind_Check ⟨[fT codeP]⟩ = some 7 := by decide +kernel
theorem plainQ : kind_Check ⟨[fT codeQ]⟩ = some 6 := by decide +kernel
theorem check_calls {w : World} {bF bB bC bK bA o c : Nat} {code : List Ins} {r : Int} (hg : Glob gam (memOf w)) (h : At w bF bB bC bK bA o c code) (hr : kind_Check ⟨[fT code]⟩ = some r) :
    Calls Tryd.prog 12 #[.agg #[.slice (some ⟨bF, 0, none⟩) 1 1]] w fun e w' => e = .returned (.int .i64 r) ∧ SameW w w' := by
  refine calls_of_valid (L := Lx gam) (kind_Check_ok gam [] hr) hg rfl (fun j c hj => ?_)
  match j, hj with
  | 0, hj =>
    simp at hj; subst hj
    exact .agg _ _ rfl (fun j c hj => by
      match j, hj with
      | 0, hj => simp at hj; subst hj; exact .tr h.tree
      | j + 1, hj => simp at hj)
  | j + 1, hj => simp at hj
end Go.Pf
end
section
/- The fixed fact of the laws of kinds: a tiny program. -/
namespace Go.Pf
open Go Go.Ab Go.Pp Go.Proofs Go.Proofs.S08
set_option maxRecDepth 100000
def tinyW (w : World) (c : Nat) : World :=
  ((((((((w.alloc (.cells #[.slice (some ⟨w.heap.size + 7, 0, none⟩) 1 1] 24)).alloc
    (.cells #[.int .i64 10, .int .i64 1, .int .i64 0, .int .i64 0, .int .i64 0, .int .i64 2, .slice none 0 0, .int .i64 15, .int .i64 2, .int .i64 1, .int .i64 0, .int .i64 0, .int .i64 0, .slice none 0 0] 27)).alloc
    (.cells #[.int .i64 17, .int .i64 0, .int .i64 2, .int .i64 0, .int .i64 0, .int .i64 0, .slice none 0 0, .int .i64 23, .int .i64 0, .int .i64 0, .int .i64 0, .int .i64 0, .int .i64 0, .slice none 0 0] 27)).alloc
    (.cells (#[.int .i64 10, .int .i64 1, .int .i64 0, .int .i64 0, .int .i64 0, .int .i64 2, .slice none 0 0, .int .i64 15, .int .i64 2, .int .i64 1, .int .i64 0, .int .i64 0, .int .i64 0, .slice none 0 0] ++
      (#[.int .i64 17, .int .i64 0, .int .i64 2, .int .i64 0, .int .i64 0, .int .i64 0, .slice none 0 0, .int .i64 23, .int .i64 0, .int .i64 0, .int .i64 0, .int .i64 0, .int .i64 0, .slice none 0 0] ++
       Builtin.zeroCells #[.int .i64 0, .int .i64 0, .int .i64 0, .int .i64 0, .int .i64 0, .int .i64 0, .slice none 0 0] (c - 4))) 27)).alloc
    (.cells #[.int .i64 0, .int .i64 1, .int .i64 2] 3)).alloc (.cells #[.int .i64 (-1), .int .i64 (-1), .int .i64 1] 3)).alloc
    (.cells #[.slice (some ⟨w.heap.size + 3, 0, none⟩) 4 c] 38)).alloc
    (.cells #[.slice (some ⟨w.heap.size + 4, 0, none⟩) 3 3, .slice (some ⟨w.heap.size + 5, 0, none⟩) 3 3, .int .i64 0, .int .i64 0, .slice (some ⟨w.heap.size + 6, 0, none⟩) 1 1] 35)).drew
theorem tiny_callsF (w : World) : Calls Tryd.prog 18 #[.bool false] w fun e w' => e = .returned (.agg #[.slice (some ⟨w.heap.size + 7, 0, none⟩) 1 1]) ∧ ∃ c, 4 ≤ c ∧ w' = tinyW w c := by
  go_enter Tryd.func18, Tryd.ntmps18
  go_wp2
  have hc : 4 ≤ (Question.appendCap 4 2 27).cut (w.tape w.drawn (Question.appendCap 4 2 27)) := by simp only [Question.cut]; omega
  generalize (Question.appendCap 4 2 27).cut (w.tape w.drawn (Question.appendCap 4 2 27)) = c at hc ⊢
  refine bodyPost_ret (results_cell_row rfl _ _ w.heap.size 24 #[.slice (some ⟨w.heap.size + 7, 0, none⟩) 1 1] (0, 0) _ rfl (by
    show (World.alloc _ _).heap[w.heap.size]? = _
    rw [al_get, if_neg (by simp only [al_size]; omega), al_get, if_neg (by simp only [al_size]; omega), al_get, if_neg (by simp only [al_size]; omega), al_get, if_neg (by simp only [al_size]; omega), al_get, if_neg (by simp only [al_size]; omega), al_get, if_neg (by simp only [al_size]; omega), al_get, if_neg (by simp only [al_size]; omega), al_get, if_pos rfl]) Tryd.underlying24 rfl (by kernel_rfl)) rfl ?_
  exact ⟨rfl, c, hc, rfl⟩
end Go.Pf
end
