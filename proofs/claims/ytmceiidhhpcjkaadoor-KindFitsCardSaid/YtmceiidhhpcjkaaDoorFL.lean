/- In any program of right shape, whether an instruction's kinds fit is the same by the program and by the document: the law KindFits holds. No condition beyond the form's own reach. -/
import Derived.Deep.DeepHandedRow
import Derived.Lib.LaidTab
import Derived.OpenShut
import Derived.ProofKit
import Derived.Test.YtmceiidhhpcjkaaDoorCards
import Derived.Test.YtmceiidhhpcjkaaDoorTie
import Derived.WalkKit
import Derived.Test.YtmceiidhhpcjkaaDoorFK4
import Derived.Test.YtmceiidhhpcjkaaDoorP1
set_option linter.all false
section
/- The link of law08: what all cards share. -/
namespace Go.Pf
open Go Go.Ab Go.Pp Go.Proofs Go.Proofs.S08 Go.Proofs.YtmceiidhhpcjkaaDoor
theorem gParts : Tryd.prog.globalNamed "portolan/code.parts" = some 1 := by kernel_rfl
theorem gPartsType : (Tryd.prog.globals[1]?).map (·.type) = some 88 := by kernel_rfl
theorem gRows : Tryd.prog.globalNamed "portolan/kind.rows" = some 0 := by kernel_rfl
theorem gRowsType : (Tryd.prog.globals[0]?).map (·.type) = some 56 := by kernel_rfl
theorem cells9 : Tryd.prog.cellsOf 9 = 1 := by kernel_rfl
theorem cellsInt : Tryd.prog.cellsOf 3 = 1 := by kernel_rfl
theorem cellsRow : Tryd.prog.cellsOf 55 = 3 := by kernel_rfl
theorem cellsRows : Tryd.prog.cellsOf 56 = 72 := by kernel_rfl
theorem parts_data {H : Type} : (Rows.laid_portolan_code_parts : DataW H) = .agg (Go.Pf.partsL.map fun s => DataW.lit (.string s.data.toList)) := by rfl
def rowsLL : List (List Int) := (List.range 24).map fun i => (Go.Pf.rowsL.drop (i * 3)).take 3
theorem rows_data {H : Type} : (Rows.laid_portolan_kind_rows : DataW H) = .agg (rowsLL.map fun l => DataW.agg (l.map fun n => DataW.lit (.int .i64 n))) := by rfl
theorem rowsLL_at : ∀ k : Fin 72, (rowsLL[k.val / 3]?).bind (fun l => l[k.val % 3]?) = Go.Pf.rowsL[k.val]? := by decide +kernel
theorem rowsL_len : Go.Pf.rowsL.length = 72 := by rfl
theorem glob_parts {W : World} (h : laidMetH Tryd.prog [("portolan/code.parts", Rows.laid_portolan_code_parts), ("portolan/kind.rows", Rows.laid_portolan_kind_rows)] W) : Glob gam (memOf W) := by
  obtain ⟨ps, ⟨g', t', cs, fuel, p, q, hg', ht', hvar, hd, hrest, _⟩, _⟩ := h
  obtain ⟨g2, t2, cs2, fuel2, p2, q2, hg2, ht2, hvar2, hd2, _⟩ := hrest
  obtain rfl := Option.some.inj (gParts.symm.trans hg')
  obtain rfl := Option.some.inj (gPartsType.symm.trans ht')
  obtain rfl := Option.some.inj (gRows.symm.trans hg2)
  obtain rfl := Option.some.inj (gRowsType.symm.trans ht2)
  obtain ⟨xs, m, rfl, hx, hl, hxl, hget⟩ := DataW.trod_array Tryd.underlying88 hd
  obtain ⟨ys, m2, rfl, hy, hyl, hyy, hgey⟩ := DataW.trod_array Tryd.underlying56 hd2
  rw [parts_data] at hx
  rw [rows_data] at hy
  simp only [Prod.mk.injEq, DataW.agg.injEq] at hx hy
  intro g vs hγ j v hj
  unfold gam at hγ
  split at hγ
  · rename_i h0
    subst h0
    cases hγ
    simp only [List.getElem?_map, Option.map_eq_some_iff] at hj
    obtain ⟨s, hs, rfl⟩ := hj
    have hj72 : j < 72 := by
      have := (List.getElem?_eq_some_iff.1 hs).1
      rw [rowsL_len] at this; exact this
    have hrow := rowsLL_at ⟨j, hj72⟩
    simp only [hs] at hrow
    obtain ⟨l, hl1, hl2⟩ := Option.bind_eq_some_iff.1 hrow
    have h1 := hgey (j / 3) (by omega)
    have hxj : ∃ r, ys[j / 3]? = some (DataW.agg (l.map fun n => DataW.lit (.int .i64 n)), r) := by
      have h2 : (ys.map (·.1))[j / 3]? = some (DataW.agg (l.map fun n => DataW.lit (.int .i64 n))) := by rw [← hy.1, List.getElem?_map, hl1]; rfl
      simp only [List.getElem?_map, Option.map_eq_some_iff] at h2
      obtain ⟨⟨a, b⟩, h3, h4⟩ := h2
      exact ⟨b, by rw [h3]; simp only at h4; rw [h4]⟩
    obtain ⟨r, hr⟩ := hxj
    rw [hr, cellsRow] at h1
    obtain ⟨zs, m3, rfl, hz, hzl, hzz, hgez⟩ := DataW.trod_array Tryd.underlying55 h1
    simp only [Prod.mk.injEq, DataW.agg.injEq] at hz
    have h1 := hgez (j % 3) (by omega)
    have hxj : ∃ r, zs[j % 3]? = some (DataW.lit (.int .i64 s), r) := by
      have h2 : (zs.map (·.1))[j % 3]? = some (DataW.lit (.int .i64 s)) := by rw [← hz.1, List.getElem?_map, hl2]; rfl
      simp only [List.getElem?_map, Option.map_eq_some_iff] at h2
      obtain ⟨⟨a, b⟩, h3, h4⟩ := h2
      exact ⟨b, by rw [h3]; simp only at h4; rw [h4]⟩
    obtain ⟨r', hr'⟩ := hxj
    rw [hr', cellsInt] at h1
    obtain ⟨n, e1, e2, _⟩ := DataW.trod_int Tryd.underlying3 h1
    simp only [Prod.mk.injEq, DataW.lit.injEq, Lit.int.injEq] at e2
    obtain ⟨⟨_, rfl⟩, _⟩ := e2
    have hcs : cs2[j]? = some (.int .i64 s) := by
      have := congrArg (fun l => l[0]?) e1
      simp only [List.getElem?_take, List.getElem?_drop] at this
      have hj : j / 3 * 3 + j % 3 = j := by omega
      simp at this
      have h3 : j % 3 < 3 := by omega
      simpa [hj, h3] using this
    exact (cell_mem (by rw [World.var?_cell gRows hvar2 j]; exact hcs)).1
  · split at hγ
    · rename_i h0
      subst h0
      cases hγ
      simp only [List.getElem?_map, Option.map_eq_some_iff] at hj
      obtain ⟨s, hs, rfl⟩ := hj
      have hj24 : j < 24 := by
        have := (List.getElem?_eq_some_iff.1 hs).1
        exact this
      have h1 := hget j hj24
      have hxj : ∃ r, xs[j]? = some (DataW.lit (.string s.data.toList), r) := by
        have h2 : (xs.map (·.1))[j]? = some (DataW.lit (.string s.data.toList)) := by rw [← hx.1, List.getElem?_map, hs]; rfl
        simp only [List.getElem?_map, Option.map_eq_some_iff] at h2
        obtain ⟨⟨a, b⟩, h3, h4⟩ := h2
        exact ⟨b, by rw [h3]; simp only at h4; rw [h4]⟩
      obtain ⟨r, hr⟩ := hxj
      rw [hr, cells9] at h1
      obtain ⟨s', e1, e2, _⟩ := DataW.trod_string Tryd.underlying9 h1
      have hss : s' = s := by
        simp only [Prod.mk.injEq, DataW.lit.injEq, Lit.string.injEq] at e2
        have := e2.1
        cases s' with | mk d' => cases s with | mk d => simp at this; rw [this]
      subst hss
      have hcs : cs[j]? = some (.string s') := by
        have := congrArg (fun l => l[0]?) e1
        simpa using this
      exact (cell_mem (by rw [World.var?_cell gParts hvar j]; exact hcs)).1
    · cases hγ
def fillG (vs : List Value) : Obj → Obj
  | .cells _ t frozen => .cells vs.toArray t frozen
  | o => o
noncomputable def laidWorld (os : Os) : World :=
  { World.holding Tryd.prog os ⟨#[], #[], []⟩ with heap := ((World.holding Tryd.prog os ⟨#[], #[], []⟩).heap.modify 1 (fillG (Go.Pf.partsL.map Value.string))).modify 0 (fillG (Go.Pf.rowsL.map (Value.int .i64))) }
end Go.Pf
end
section
set_option linter.all false
namespace Go.Pf
open Go Go.Ab Go.Pp Go.Proofs Go.Proofs.S08 Go.Proofs.YtmceiidhhpcjkaaDoor Go.ChangeShapes Go.WideShapes Go.ChangeAt Go.RowKit
set_option maxRecDepth 100000
theorem len1 {α : Type} {l : List α} (h : l.length = 1) : ∃ x0, l = [x0] := by
  match l, h with
  | [x0], _ => exact ⟨x0, rfl⟩
theorem len5 {α : Type} {l : List α} (h : l.length = 5) : ∃ x0 x1 x2 x3 x4, l = [x0, x1, x2, x3, x4] := by
  match l, h with
  | [x0, x1, x2, x3, x4], _ => exact ⟨x0, x1, x2, x3, x4, rfl⟩
theorem len7 {α : Type} {l : List α} (h : l.length = 7) : ∃ x0 x1 x2 x3 x4 x5 x6, l = [x0, x1, x2, x3, x4, x5, x6] := by
  match l, h with
  | [x0, x1, x2, x3, x4, x5, x6], _ => exact ⟨x0, x1, x2, x3, x4, x5, x6, rfl⟩
def okt_i64 (a : Int) : Prop := -9223372036854775808 ≤ a ∧ a ≤ 9223372036854775807
theorem wt_i64 {ts : List Tr} (h : WT Tryd.prog 3 ts) : ∃ a : Int, ts = (eI .i64) a ∧ okt_i64 a := by
  obtain ⟨n, rfl, hn⟩ := h.int_inv Tryd.underlying3
  exact ⟨n, rfl, bounds_i64 hn⟩
def okt_L_i64 (a : List Int) : Prop := a.length * 8 ≤ 140737488351232 ∧ ∀ x ∈ a, okt_i64 x
theorem cellsOf3 : Tryd.prog.cellsOf 3 = 1 := by kernel_rfl
theorem bytesOf3 : Tryd.prog.bytesOf 3 = 8 := by kernel_rfl
theorem wt_L_i64 {ts : List Tr} (h : WT Tryd.prog 25 ts) : ∃ a : List Int, ts = [.sl 1 false (List.map (eI .i64) a)] ∧ okt_L_i64 a := by
  obtain ⟨es, rfl, hl, he⟩ := h.sl_inv Tryd.underlying25
  obtain ⟨l, rfl, hll, hk⟩ := map_inv (fun x => wt_i64) he
  rw [bytesOf3, ← hll] at hl
  exact ⟨l, by rw [cellsOf3], hl, hk⟩
def okt_Ins (a : Ins) : Prop := okt_i64 a.Op ∧ okt_i64 a.D ∧ okt_i64 a.A ∧ okt_i64 a.B ∧ okt_i64 a.N ∧ okt_i64 a.M ∧ okt_L_i64 a.Args
theorem wt_Ins {ts : List Tr} (h : WT Tryd.prog 27 ts) : ∃ a : Ins, ts = e_Ins a ∧ okt_Ins a := by
  obtain ⟨ps, rfl, hl, hp⟩ := h.struct_inv Tryd.underlying27
  obtain ⟨p0, p1, p2, p3, p4, p5, p6, rfl⟩ : ∃ p0 p1 p2 p3 p4 p5 p6, ps = [p0, p1, p2, p3, p4, p5, p6] := by
    have hl : ps.length = 7 := hl
    exact len7 hl
  obtain ⟨a0, rfl, h0⟩ := wt_i64 (hp 0 _ _ rfl rfl)
  obtain ⟨a1, rfl, h1⟩ := wt_i64 (hp 1 _ _ rfl rfl)
  obtain ⟨a2, rfl, h2⟩ := wt_i64 (hp 2 _ _ rfl rfl)
  obtain ⟨a3, rfl, h3⟩ := wt_i64 (hp 3 _ _ rfl rfl)
  obtain ⟨a4, rfl, h4⟩ := wt_i64 (hp 4 _ _ rfl rfl)
  obtain ⟨a5, rfl, h5⟩ := wt_i64 (hp 5 _ _ rfl rfl)
  obtain ⟨a6, rfl, h6⟩ := wt_L_i64 (hp 6 _ _ rfl rfl)
  exact ⟨⟨a0, a1, a2, a3, a4, a5, a6⟩, by simp [e_Ins, eI, eB, eS], h0, h1, h2, h3, h4, h5, h6⟩
def okt_L_Ins (a : List Ins) : Prop := a.length * 72 ≤ 140737488351232 ∧ ∀ x ∈ a, okt_Ins x
theorem cellsOf27 : Tryd.prog.cellsOf 27 = 7 := by kernel_rfl
theorem bytesOf27 : Tryd.prog.bytesOf 27 = 72 := by kernel_rfl
theorem wt_L_Ins {ts : List Tr} (h : WT Tryd.prog 36 ts) : ∃ a : List Ins, ts = [.sl 7 false (List.map e_Ins a)] ∧ okt_L_Ins a := by
  obtain ⟨es, rfl, hl, he⟩ := h.sl_inv Tryd.underlying36
  obtain ⟨l, rfl, hll, hk⟩ := map_inv (fun x => wt_Ins) he
  rw [bytesOf27, ← hll] at hl
  exact ⟨l, by rw [cellsOf27], hl, hk⟩
def okt_Block (a : Block) : Prop := okt_L_Ins a.Code
theorem wt_Block {ts : List Tr} (h : WT Tryd.prog 38 ts) : ∃ a : Block, ts = e_Block a ∧ okt_Block a := by
  obtain ⟨ps, rfl, hl, hp⟩ := h.struct_inv Tryd.underlying38
  obtain ⟨p0, rfl⟩ : ∃ p0, ps = [p0] := by
    have hl : ps.length = 1 := hl
    exact len1 hl
  obtain ⟨a0, rfl, h0⟩ := wt_L_Ins (hp 0 _ _ rfl rfl)
  exact ⟨⟨a0⟩, by simp [e_Block, eI, eB, eS], h0⟩
def okt_L_Block (a : List Block) : Prop := a.length * 24 ≤ 140737488351232 ∧ ∀ x ∈ a, okt_Block x
theorem cellsOf38 : Tryd.prog.cellsOf 38 = 1 := by kernel_rfl
theorem bytesOf38 : Tryd.prog.bytesOf 38 = 24 := by kernel_rfl
theorem wt_L_Block {ts : List Tr} (h : WT Tryd.prog 33 ts) : ∃ a : List Block, ts = [.sl 1 false (List.map e_Block a)] ∧ okt_L_Block a := by
  obtain ⟨es, rfl, hl, he⟩ := h.sl_inv Tryd.underlying33
  obtain ⟨l, rfl, hll, hk⟩ := map_inv (fun x => wt_Block) he
  rw [bytesOf38, ← hll] at hl
  exact ⟨l, by rw [cellsOf38], hl, hk⟩
def okt_Func (a : Func) : Prop := okt_L_i64 a.Kinds ∧ okt_L_i64 a.Base ∧ okt_i64 a.Params ∧ okt_i64 a.Result ∧ okt_L_Block a.Blocks
theorem wt_Func {ts : List Tr} (h : WT Tryd.prog 35 ts) : ∃ a : Func, ts = e_Func a ∧ okt_Func a := by
  obtain ⟨ps, rfl, hl, hp⟩ := h.struct_inv Tryd.underlying35
  obtain ⟨p0, p1, p2, p3, p4, rfl⟩ : ∃ p0 p1 p2 p3 p4, ps = [p0, p1, p2, p3, p4] := by
    have hl : ps.length = 5 := hl
    exact len5 hl
  obtain ⟨a0, rfl, h0⟩ := wt_L_i64 (hp 0 _ _ rfl rfl)
  obtain ⟨a1, rfl, h1⟩ := wt_L_i64 (hp 1 _ _ rfl rfl)
  obtain ⟨a2, rfl, h2⟩ := wt_i64 (hp 2 _ _ rfl rfl)
  obtain ⟨a3, rfl, h3⟩ := wt_i64 (hp 3 _ _ rfl rfl)
  obtain ⟨a4, rfl, h4⟩ := wt_L_Block (hp 4 _ _ rfl rfl)
  exact ⟨⟨a0, a1, a2, a3, a4⟩, by simp [e_Func, eI, eB, eS], h0, h1, h2, h3, h4⟩
def okt_L_Func (a : List Func) : Prop := a.length * 88 ≤ 140737488351232 ∧ ∀ x ∈ a, okt_Func x
theorem cellsOf35 : Tryd.prog.cellsOf 35 = 5 := by kernel_rfl
theorem bytesOf35 : Tryd.prog.bytesOf 35 = 88 := by kernel_rfl
theorem wt_L_Func {ts : List Tr} (h : WT Tryd.prog 22 ts) : ∃ a : List Func, ts = [.sl 5 false (List.map e_Func a)] ∧ okt_L_Func a := by
  obtain ⟨es, rfl, hl, he⟩ := h.sl_inv Tryd.underlying22
  obtain ⟨l, rfl, hll, hk⟩ := map_inv (fun x => wt_Func) he
  rw [bytesOf35, ← hll] at hl
  exact ⟨l, by rw [cellsOf35], hl, hk⟩
def okt_Prog (a : Prog) : Prop := okt_L_Func a.Funcs
theorem wt_Prog {ts : List Tr} (h : WT Tryd.prog 24 ts) : ∃ a : Prog, ts = e_Prog a ∧ okt_Prog a := by
  obtain ⟨ps, rfl, hl, hp⟩ := h.struct_inv Tryd.underlying24
  obtain ⟨p0, rfl⟩ : ∃ p0, ps = [p0] := by
    have hl : ps.length = 1 := hl
    exact len1 hl
  obtain ⟨a0, rfl, h0⟩ := wt_L_Func (hp 0 _ _ rfl rfl)
  exact ⟨⟨a0⟩, by simp [e_Prog, eI, eB, eS], h0⟩
theorem bool_okw {W' : World} {fn : Go.Func} (hr : fn.resultTypes = #[4]) : ∀ (j : Nat) (t : TypeId) (r : Value), fn.resultTypes[j]? = some t → ((Value.bool true).resultList fn.resultTypes.size)[j]? = some r → Value.okWide Tryd.prog W' .any 0 t r :=
  by rw [hr]; intro j t r h1 h2; match j, h1, h2 with | 0, h1, h2 => simp at h1 h2; subst h1; simp [Value.resultList] at h2; subst h2; exact okWide_bool_mk Tryd.underlying4 _ | j + 1, h1, h2 => simp at h1
theorem portolanlaw08_KindFits_okF {a0 : Prog} {a1 : Int} {a2 : Ins} {r : Bool} (h : portolanlaw08_KindFits a0 a1 a2 = some r) :
    Valid (Lx gam) 3 [V.agg [V.tr (.sl 5 false (List.map e_Func a0.Funcs))], vint .i64 a1, V.agg [vint .i64 a2.Op, vint .i64 a2.D, vint .i64 a2.A, vint .i64 a2.B, vint .i64 a2.N, vint .i64 a2.M, V.tr (.sl 1 false (List.map (eI .i64) a2.Args))]] [] (vbool r) [] :=
  portolanlaw08_KindFits_ok gam [] (by simp [rdK, rdS]) (by simp [rdK, rdS]) h
theorem contract (hpl : ∀ a0 a1 a2, okt_Prog a0 → okt_i64 a1 → okt_Ins a2 → portolanlaw08_KindFits a0 a1 a2 = some true) (H : Type) (enc : TypeId × Value → H) (W : World) (base : Nat) (args : Array Value) (ds gs : List (DataW H)) (before : List MemPlace)
    (hval : ∀ (j : Nat) t v, Tryd.f3.params[j]? = some t → args[j]? = some v → Value.okWide Tryd.prog W .any base t v)
    (hW : DataW.Whole enc Tryd.prog Tryd.f3.params.toList Rows.kindFitsSpec.vars false W args.toList ds gs before) (hz : (DataW.weightsEach Tryd.prog (Tryd.f3.params.toList ++ (OpenSpec.ofChange Rows.kindFitsSpec).bare.plain.varTypes Tryd.prog) (ds ++ gs)).all (· ≤ reachBytes) = true) (hL : laidMetH Tryd.prog Rows.kindFitsRow.laid W) {fresh handsOn again : Bool} :
    Calls Tryd.prog 3 args W fun e W' => ∃ v, e = .returned v ∧ Rows.kindFitsSpec.post enc Tryd.prog Tryd.f3 false fresh handsOn again W args v W' := by
  have hW' := hW
  obtain ⟨p, q, hA0, hV, rfl, hfz, hnd⟩ := hW
  have hA : DataW.TrodAll enc Tryd.prog W 0 (fun _ => true) true Tryd.f3.params.toList args.toList ds p := hA0
  rw [Tryd.params3] at hA hval
  obtain ⟨v0, vs0, d0, ds0, p0, q0, hargs, rfl, rfl, h0, r0⟩ := trodAll_cons hA
  obtain ⟨v1, vs1, d1, ds1, p1, q1, rfl, rfl, rfl, h1, r1⟩ := trodAll_cons r0
  obtain ⟨v2, vs2, d2, ds2, p2, q2, rfl, rfl, rfl, h2, r2⟩ := trodAll_cons r1
  obtain ⟨rfl, rfl, rfl⟩ := trodAll_nil r2
  obtain rfl : args = #[v0, v1, v2] := by cases args; simp_all
  obtain ⟨rfl, rfl⟩ := trodVars_none hV
  rw [Tryd.params3] at hz
  have hz := fun {j t d} (h1 : (#[(24 : TypeId), (3 : TypeId), (27 : TypeId)].toList ++ (OpenSpec.ofChange Rows.kindFitsSpec).bare.plain.varTypes Tryd.prog)[j]? = some t) (h2 : ([d0, d1, d2] ++ [])[j]? = some d) m hm => of_decide_eq_true (List.all_eq_true.1 hz m (DataW.weights_mem_each h1 h2 m hm))
  obtain ⟨cs0, rfl⟩ := ok_agg Tryd.underlying24 (hval 0 24 v0 rfl rfl)
  obtain ⟨x0, hw0, hv0⟩ := arg_agg (G := fun _ => none) (n := 9) (show treeTy Tryd.prog 9 24 = true by kernel_rfl) h0 (hz (j := 0) rfl rfl)
  obtain ⟨a0, rfl, hk0⟩ := wt_Prog hw0
  obtain ⟨x1, hw1, hv1⟩ := arg_one (G := fun _ => none) (n := 9) (show treeTy Tryd.prog 9 3 = true by kernel_rfl) (ok_notAgg Tryd.underlying3 rfl (hval 1 3 v1 rfl rfl) (.inr (.inl ⟨_, rfl⟩))) h1 (hz (j := 1) rfl rfl)
  obtain ⟨a1, ha1, hk1⟩ := wt_i64 hw1
  cases ha1
  obtain ⟨cs2, rfl⟩ := ok_agg Tryd.underlying27 (hval 2 27 v2 rfl rfl)
  obtain ⟨x2, hw2, hv2⟩ := arg_agg (G := fun _ => none) (n := 9) (show treeTy Tryd.prog 9 27 = true by kernel_rfl) h2 (hz (j := 2) rfl rfl)
  obtain ⟨a2, rfl, hk2⟩ := wt_Ins hw2
  refine law_contract (L := Lx gam) (tb := 4) rfl (fun t ht => ⟨9, ?_⟩) rfl Tryd.underlying4 (fun W' => bool_okw rfl) rfl hW' (portolanlaw08_KindFits_okF (hpl a0 a1 a2 hk0 hk1 hk2)) (glob_parts hL) rfl (fun j c hj => ?_)
  · rw [Tryd.params3] at ht
    simp only [List.mem_cons, List.not_mem_nil, or_false] at ht
    rcases ht with rfl | rfl | rfl
    · exact (show treeTy Tryd.prog 9 24 = true by kernel_rfl)
    · exact (show treeTy Tryd.prog 9 3 = true by kernel_rfl)
    · exact (show treeTy Tryd.prog 9 27 = true by kernel_rfl)
  · match j, hj with
    | 0, hj => simp at hj; subst hj; simpa [eI, eB, eS, e_Prog] using hv0
    | 1, hj => simp at hj; subst hj; simpa [eI, eB, eS] using hv1
    | 2, hj => simp at hj; subst hj; simpa [eI, eB, eS, e_Ins] using hv2
    | j + 3, hj => simp at hj
theorem own : ownKnob Tryd.prog.godebug = none := by kernel_rfl
set_option maxRecDepth 100000 in
theorem laid_met (os : Os) : laidMet Tryd.prog Rows.kindFitsRow.laid ((laidWorld os).forCall (fun _ _ => 0) ⟨#[], #[.agg #[.slice none 0 0], .int .i64 0, .agg #[.int .i64 0, .int .i64 0, .int .i64 0, .int .i64 0, .int .i64 0, .int .i64 0, .slice none 0 0]], []⟩).memory :=
  laidMet_of_run' 8 (by kernel_rfl) (by kernel_rfl)
theorem reads (os : Os) {H : Type} (enc : TypeId × Value → H) : ∃ places, DataW.whole enc Tryd.prog ((laidWorld os).forCall (fun _ _ => 0) ⟨#[], #[.agg #[.slice none 0 0], .int .i64 0, .agg #[.int .i64 0, .int .i64 0, .int .i64 0, .int .i64 0, .int .i64 0, .int .i64 0, .slice none 0 0]], []⟩).memory Tryd.f3.params.toList Rows.kindFitsSpec.vars false (#[(.agg #[.slice none 0 0] : Value), (.int .i64 0 : Value), (.agg #[.int .i64 0, .int .i64 0, .int .i64 0, .int .i64 0, .int .i64 0, .int .i64 0, .slice none 0 0] : Value)] : Array Value).toList 8 = some ([.agg [.nil], .lit (.int .i64 0), .agg [.lit (.int .i64 0), .lit (.int .i64 0), .lit (.int .i64 0), .lit (.int .i64 0), .lit (.int .i64 0), .lit (.int .i64 0), .nil]], [], places) :=
  ⟨[], by kernel_rfl⟩
set_option maxRecDepth 100000 in
theorem lifted (hpl : ∀ a0 a1 a2, okt_Prog a0 → okt_i64 a1 → okt_Ins a2 → portolanlaw08_KindFits a0 a1 a2 = some true) (os : Os) (started : os.Started) (H : Type) (enc : TypeId × Value → H) (F : Stop.Interp) :
    ReturnsInHanded {} Tryd.checked os 3 .any ((OpenSpec.ofChange Rows.kindFitsSpec).preRow enc Tryd.prog Tryd.f3 Rows.kindFitsRow.domain false Rows.kindFitsRow.laid) (((OpenSpec.ofChange Rows.kindFitsSpec).at F).post enc Tryd.prog Tryd.f3 false true false false) := by
  obtain ⟨places, hx⟩ := reads os enc
  refine returnsInHanded_of_row (C := Tryd.checked) (s := (OpenSpec.ofChange Rows.kindFitsSpec)) own started (by kernel_rfl) Tryd.func3
    (witness_row_at (enc := enc) (C := Tryd.checked) false (laidWorld os) #[.agg #[.slice none 0 0], .int .i64 0, .agg #[.int .i64 0, .int .i64 0, .int .i64 0, .int .i64 0, .int .i64 0, .int .i64 0, .slice none 0 0]] rfl (by kernel_rfl) (by kernel_rfl) (by kernel_rfl)
      (OpenSpec.preRow_of_cond 8 hx (by kernel_rfl) (fun k hk => by cases hk) (by kernel_rfl) (laid_met os))) ?_
  intro W base args ds gs before hval hW _ _ hz hL _ _
  exact contract hpl H enc W base args ds gs before hval hW hz hL
set_option maxRecDepth 100000 in
theorem said (hpl : ∀ a0 a1 a2, okt_Prog a0 → okt_i64 a1 → okt_Ins a2 → portolanlaw08_KindFits a0 a1 a2 = some true) : Rows.KindFitsSaid :=
  OpenClaim.holds_of_cond 3 Tryd.f3 rfl rfl rfl rfl rfl rfl rfl ⟨rfl, rfl, rfl, rfl, rfl⟩ rfl rfl rfl rfl rfl (by kernel_rfl) Tryd.func3 (by kernel_rfl)
    (of_decide_eq_true (by kernel_rfl)) (by unfold Go.Func.isWrapper; first | (rw [if_pos (by decide +kernel)]; kernel_rfl) | (rw [if_neg (by decide +kernel)]; exact ⟨rfl, rfl⟩))
    (fun os started H enc _ F => by rw [OpenClaim.pre_eq_preRow]; exact lifted hpl os started H enc F)
theorem plainL (f : FuncId) (fn : Go.Func) (hf : Tryd.pinned.checked.prog.funcNamed "portolan/portolanlaw08.KindFits" = some f) (hfn : Tryd.pinned.checked.prog.funcs[f]? = some fn) :
    false = Tryd.pinned.checked.prog.looks [] ∧ ∀ (j : Nat) t, fn.params[j]? = some t → Tryd.pinned.checked.prog.wantsStandIn t = false := by
  obtain rfl : f = 3 := Option.some.inj ((show Tryd.prog.funcNamed "portolan/portolanlaw08.KindFits" = some 3 by kernel_rfl).symm.trans hf) |>.symm
  obtain rfl : fn = Tryd.f3 := (Option.some.inj (Tryd.func3.symm.trans hfn)).symm
  refine ⟨by kernel_rfl, fun j t ht => ?_⟩
  rw [Tryd.params3] at ht
  have ht := Array.mem_of_getElem? ht
  simp only [List.mem_toArray, List.mem_cons, List.not_mem_nil, or_false] at ht
  rcases ht with rfl | rfl | rfl
  · exact (show Tryd.prog.wantsStandIn 24 = false by kernel_rfl)
  · exact (show Tryd.prog.wantsStandIn 3 = false by kernel_rfl)
  · exact (show Tryd.prog.wantsStandIn 27 = false by kernel_rfl)
theorem card (hpl : ∀ a0 a1 a2, okt_Prog a0 → okt_i64 a1 → okt_Ins a2 → portolanlaw08_KindFits a0 a1 a2 = some true) : Rows.KindFitsCardSaid :=
  Claim7.holds_tied_plain_at .later [] _ _ _ _ (said hpl) (fun _ h => by cases h) (by kernel_rfl) (fun _ h => by cases h) kindFits_row_tie rfl ⟨rfl, rfl⟩ (by kernel_rfl) rfl plainL (by kernel_rfl)
end Go.Pf
end
namespace Go.Pf
theorem ok_ins {x : Ins} (h : okt_Ins x) : okI0 x := by
  obtain ⟨_, _, _, _, _, _, c3, _⟩ := h
  unfold okI0; omega
theorem ok_prog {a : Prog} (h : okt_Prog a) : okPr a := by
  obtain ⟨h1, h2⟩ := h
  refine ⟨by unfold okF0; omega, fun f hf => ?_⟩
  obtain ⟨⟨k1, _⟩, ⟨k2, _⟩, _, _, k3, k4⟩ := h2 f hf
  refine ⟨⟨by omega, by omega, by omega, fun b hb => ?_⟩, fun b hb x hx => ?_⟩
  · obtain ⟨c1, _⟩ := k4 b hb; omega
  · obtain ⟨_, c2⟩ := k4 b hb
    exact ok_ins (c2 x hx)
end Go.Pf
namespace Go.Proofs.YtmceiidhhpcjkaaDoor
theorem kindFits_proved : Rows.KindFitsCardSaid := Go.Pf.card fun _ _ _ h _ k => Go.Pf.KindFits_plain (Go.Pf.ok_prog h) (Go.Pf.ok_ins k)
end Go.Proofs.YtmceiidhhpcjkaaDoor
