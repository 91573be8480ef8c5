/- Two texts of the same bytes are the same; what is cut off, or goes on, is none: the law TextOnce holds. No condition beyond the form's own reach. -/
import Derived.Deep.DeepHandedRow
import Derived.Lib.LaidTab
import Derived.OpenShut
import Derived.ProofKit
import Derived.Test.YtkjhkbolchkkhaaDoorCards
import Derived.Test.YtkjhkbolchkkhaaDoorTie
import Derived.WalkKit
import Derived.Test.YtkjhkbolchkkhaaDoorOK2
import Derived.Test.YtkjhkbolchkkhaaDoorP1
set_option linter.all false
section
/- The link of law19: what all five cards share. -/
namespace Go.Pf
open Go Go.Ab Go.Pp Go.Proofs Go.Proofs.S19 Go.Proofs.YtkjhkbolchkkhaaDoor
theorem gParts : Tryd.prog.globalNamed "portolan/code.parts" = some 0 := by kernel_rfl
theorem gPartsType : (Tryd.prog.globals[0]?).map (·.type) = some 83 := by kernel_rfl
theorem cells9 : Tryd.prog.cellsOf 9 = 1 := by kernel_rfl
theorem cells83 : Tryd.prog.cellsOf 83 = 24 := by kernel_rfl
theorem parts_data {H : Type} : (Rows.laid_portolan_code_parts : DataW H) = .agg (Go.Pf.partsL.map fun s => DataW.lit (.string s.data.toList)) := by rfl
theorem glob_parts {W : World} (h : laidMetH Tryd.prog [("portolan/code.parts", Rows.laid_portolan_code_parts)] W) : Glob gam (memOf W) := by
  obtain ⟨ps, ⟨g', t', cs, fuel, p, q, hg', ht', hvar, hd, _, _⟩, _⟩ := h
  obtain rfl := Option.some.inj (gParts.symm.trans hg')
  obtain rfl := Option.some.inj (gPartsType.symm.trans ht')
  obtain ⟨xs, m, rfl, hx, hl, hxl, hget⟩ := DataW.trod_array Tryd.underlying83 hd
  rw [parts_data] at hx
  simp only [Prod.mk.injEq, DataW.agg.injEq] at hx
  intro g vs hγ j v hj
  unfold gam at hγ
  split at hγ
  · rename_i h0
    subst h0
    cases hγ
    simp only [List.getElem?_map, Option.map_eq_some_iff] at hj
    obtain ⟨s, hs, rfl⟩ := hj
    have hj24 : j < 24 := by
      have := (List.getElem?_eq_some_iff.1 hs).1
      exact this
    have h1 := hget j hj24
    have hxj : ∃ r, xs[j]? = some (DataW.lit (.string s.data.toList), r) := by
      have h2 : (xs.map (·.1))[j]? = some (DataW.lit (.string s.data.toList)) := by rw [← hx.1, List.getElem?_map, hs]; rfl
      simp only [List.getElem?_map, Option.map_eq_some_iff] at h2
      obtain ⟨⟨a, b⟩, h3, h4⟩ := h2
      exact ⟨b, by rw [h3]; simp only at h4; rw [h4]⟩
    obtain ⟨r, hr⟩ := hxj
    rw [hr, cells9] at h1
    obtain ⟨s', e1, e2, _⟩ := DataW.trod_string Tryd.underlying9 h1
    have hss : s' = s := by
      simp only [Prod.mk.injEq, DataW.lit.injEq, Lit.string.injEq] at e2
      have := e2.1
      cases s' with | mk d' => cases s with | mk d => simp at this; rw [this]
    subst hss
    have hcs : cs[j]? = some (.string s') := by
      have := congrArg (fun l => l[0]?) e1
      simpa using this
    exact (cell_mem (by rw [World.var?_cell gParts hvar j]; exact hcs)).1
  · cases hγ
noncomputable def laidWorld (os : Os) : World :=
  { World.holding Tryd.prog os ⟨#[], #[], []⟩ with heap := (World.holding Tryd.prog os ⟨#[], #[], []⟩).heap.modify 0 fun
      | .cells _ t frozen => .cells (Go.Pf.partsL.map Value.string).toArray t frozen
      | o => o }
end Go.Pf
end
section
set_option linter.all false
namespace Go.Pf
open Go Go.Ab Go.Pp Go.Proofs Go.Proofs.S19 Go.Proofs.YtkjhkbolchkkhaaDoor Go.ChangeShapes Go.WideShapes Go.ChangeAt Go.RowKit
set_option maxRecDepth 100000
theorem len2 {α : Type} {l : List α} (h : l.length = 2) : ∃ x0 x1, l = [x0, x1] := by
  match l, h with
  | [x0, x1], _ => exact ⟨x0, x1, rfl⟩
theorem len3 {α : Type} {l : List α} (h : l.length = 3) : ∃ x0 x1 x2, l = [x0, x1, x2] := by
  match l, h with
  | [x0, x1, x2], _ => exact ⟨x0, x1, x2, rfl⟩
theorem len8 {α : Type} {l : List α} (h : l.length = 8) : ∃ x0 x1 x2 x3 x4 x5 x6 x7, l = [x0, x1, x2, x3, x4, x5, x6, x7] := by
  match l, h with
  | [x0, x1, x2, x3, x4, x5, x6, x7], _ => exact ⟨x0, x1, x2, x3, x4, x5, x6, x7, rfl⟩
def okt_i64 (a : Int) : Prop := -9223372036854775808 ≤ a ∧ a ≤ 9223372036854775807
theorem wt_i64 {ts : List Tr} (h : WT Tryd.prog 3 ts) : ∃ a : Int, ts = (eI .i64) a ∧ okt_i64 a := by
  obtain ⟨n, rfl, hn⟩ := h.int_inv Tryd.underlying3
  exact ⟨n, rfl, bounds_i64 hn⟩
def okt_Loc (a : Loc) : Prop := okt_i64 a.Kind ∧ okt_i64 a.N
theorem wt_Loc {ts : List Tr} (h : WT Tryd.prog 46 ts) : ∃ a : Loc, ts = e_Loc a ∧ okt_Loc a := by
  obtain ⟨ps, rfl, hl, hp⟩ := h.struct_inv Tryd.underlying46
  obtain ⟨p0, p1, rfl⟩ : ∃ p0 p1, ps = [p0, p1] := by
    have hl : ps.length = 2 := hl
    exact len2 hl
  obtain ⟨a0, rfl, h0⟩ := wt_i64 (hp 0 _ _ rfl rfl)
  obtain ⟨a1, rfl, h1⟩ := wt_i64 (hp 1 _ _ rfl rfl)
  exact ⟨⟨a0, a1⟩, by simp [e_Loc, eI, eB, eS], h0, h1⟩
def okt_L_Loc (a : List Loc) : Prop := a.length * 16 ≤ 140737488351232 ∧ ∀ x ∈ a, okt_Loc x
theorem cellsOf46 : Tryd.prog.cellsOf 46 = 2 := by kernel_rfl
theorem bytesOf46 : Tryd.prog.bytesOf 46 = 16 := by kernel_rfl
theorem wt_L_Loc {ts : List Tr} (h : WT Tryd.prog 47 ts) : ∃ a : List Loc, ts = [.sl 2 false (List.map e_Loc a)] ∧ okt_L_Loc a := by
  obtain ⟨es, rfl, hl, he⟩ := h.sl_inv Tryd.underlying47
  obtain ⟨l, rfl, hll, hk⟩ := map_inv (fun x => wt_Loc) he
  rw [bytesOf46, ← hll] at hl
  exact ⟨l, by rw [cellsOf46], hl, hk⟩
def okt_Mins (a : Mins) : Prop := okt_i64 a.Op ∧ okt_Loc a.D ∧ okt_Loc a.A ∧ okt_Loc a.B ∧ okt_Loc a.C ∧ okt_i64 a.N ∧ okt_i64 a.M ∧ okt_L_Loc a.Args
theorem wt_Mins {ts : List Tr} (h : WT Tryd.prog 49 ts) : ∃ a : Mins, ts = e_Mins a ∧ okt_Mins a := by
  obtain ⟨ps, rfl, hl, hp⟩ := h.struct_inv Tryd.underlying49
  obtain ⟨p0, p1, p2, p3, p4, p5, p6, p7, rfl⟩ : ∃ p0 p1 p2 p3 p4 p5 p6 p7, ps = [p0, p1, p2, p3, p4, p5, p6, p7] := by
    have hl : ps.length = 8 := hl
    exact len8 hl
  obtain ⟨a0, rfl, h0⟩ := wt_i64 (hp 0 _ _ rfl rfl)
  obtain ⟨a1, rfl, h1⟩ := wt_Loc (hp 1 _ _ rfl rfl)
  obtain ⟨a2, rfl, h2⟩ := wt_Loc (hp 2 _ _ rfl rfl)
  obtain ⟨a3, rfl, h3⟩ := wt_Loc (hp 3 _ _ rfl rfl)
  obtain ⟨a4, rfl, h4⟩ := wt_Loc (hp 4 _ _ rfl rfl)
  obtain ⟨a5, rfl, h5⟩ := wt_i64 (hp 5 _ _ rfl rfl)
  obtain ⟨a6, rfl, h6⟩ := wt_i64 (hp 6 _ _ rfl rfl)
  obtain ⟨a7, rfl, h7⟩ := wt_L_Loc (hp 7 _ _ rfl rfl)
  exact ⟨⟨a0, a1, a2, a3, a4, a5, a6, a7⟩, by simp [e_Mins, eI, eB, eS, e_Loc], h0, h1, h2, h3, h4, h5, h6, h7⟩
def okt_L_Mins (a : List Mins) : Prop := a.length * 112 ≤ 140737488351232 ∧ ∀ x ∈ a, okt_Mins x
theorem cellsOf49 : Tryd.prog.cellsOf 49 = 12 := by kernel_rfl
theorem bytesOf49 : Tryd.prog.bytesOf 49 = 112 := by kernel_rfl
theorem wt_L_Mins {ts : List Tr} (h : WT Tryd.prog 22 ts) : ∃ a : List Mins, ts = [.sl 12 false (List.map e_Mins a)] ∧ okt_L_Mins a := by
  obtain ⟨es, rfl, hl, he⟩ := h.sl_inv Tryd.underlying22
  obtain ⟨l, rfl, hll, hk⟩ := map_inv (fun x => wt_Mins) he
  rw [bytesOf49, ← hll] at hl
  exact ⟨l, by rw [cellsOf49], hl, hk⟩
def okt_L_i64 (a : List Int) : Prop := a.length * 8 ≤ 140737488351232 ∧ ∀ x ∈ a, okt_i64 x
theorem cellsOf3 : Tryd.prog.cellsOf 3 = 1 := by kernel_rfl
theorem bytesOf3 : Tryd.prog.bytesOf 3 = 8 := by kernel_rfl
theorem wt_L_i64 {ts : List Tr} (h : WT Tryd.prog 23 ts) : ∃ a : List Int, ts = [.sl 1 false (List.map (eI .i64) a)] ∧ okt_L_i64 a := by
  obtain ⟨es, rfl, hl, he⟩ := h.sl_inv Tryd.underlying23
  obtain ⟨l, rfl, hll, hk⟩ := map_inv (fun x => wt_i64) he
  rw [bytesOf3, ← hll] at hl
  exact ⟨l, by rw [cellsOf3], hl, hk⟩
def okt_Text (a : Text) : Prop := okt_L_Mins a.Code ∧ okt_L_i64 a.Starts ∧ okt_L_i64 a.Slots
theorem wt_Text {ts : List Tr} (h : WT Tryd.prog 25 ts) : ∃ a : Text, ts = e_Text a ∧ okt_Text a := by
  obtain ⟨ps, rfl, hl, hp⟩ := h.struct_inv Tryd.underlying25
  obtain ⟨p0, p1, p2, rfl⟩ : ∃ p0 p1 p2, ps = [p0, p1, p2] := by
    have hl : ps.length = 3 := hl
    exact len3 hl
  obtain ⟨a0, rfl, h0⟩ := wt_L_Mins (hp 0 _ _ rfl rfl)
  obtain ⟨a1, rfl, h1⟩ := wt_L_i64 (hp 1 _ _ rfl rfl)
  obtain ⟨a2, rfl, h2⟩ := wt_L_i64 (hp 2 _ _ rfl rfl)
  exact ⟨⟨a0, a1, a2⟩, by simp [e_Text, eI, eB, eS], h0, h1, h2⟩
def okt_u16 (a : Int) : Prop := 0 ≤ a ∧ a ≤ 65535
theorem wt_u16 {ts : List Tr} (h : WT Tryd.prog 42 ts) : ∃ a : Int, ts = (eI .u16) a ∧ okt_u16 a := by
  obtain ⟨n, rfl, hn⟩ := h.int_inv Tryd.underlying42
  exact ⟨n, rfl, bounds_u16 hn⟩
theorem bool_okw {W' : World} {fn : Func} (hr : fn.resultTypes = #[4]) : ∀ (j : Nat) (t : TypeId) (r : Value), fn.resultTypes[j]? = some t → ((Value.bool true).resultList fn.resultTypes.size)[j]? = some r → Value.okWide Tryd.prog W' .any 0 t r :=
  by rw [hr]; intro j t r h1 h2; match j, h1, h2 with | 0, h1, h2 => simp at h1 h2; subst h1; simp [Value.resultList] at h2; subst h2; exact okWide_bool_mk Tryd.underlying4 _ | j + 1, h1, h2 => simp at h1
theorem contract (hpl : ∀ a0 a1 a2, okt_Text a0 → okt_Text a1 → okt_u16 a2 → portolanlaw19_TextOnce a0 a1 a2 = some true) (H : Type) (enc : TypeId × Value → H) (W : World) (base : Nat) (args : Array Value) (ds gs : List (DataW H)) (before : List MemPlace)
    (hval : ∀ (j : Nat) t v, Tryd.f6.params[j]? = some t → args[j]? = some v → Value.okWide Tryd.prog W .any base t v)
    (hW : DataW.Whole enc Tryd.prog Tryd.f6.params.toList Rows.textOnceSpec.vars false W args.toList ds gs before) (hz : (DataW.weightsEach Tryd.prog (Tryd.f6.params.toList ++ (OpenSpec.ofChange Rows.textOnceSpec).bare.plain.varTypes Tryd.prog) (ds ++ gs)).all (· ≤ reachBytes) = true) (hL : laidMetH Tryd.prog Rows.textOnceRow.laid W) {fresh handsOn again : Bool} :
    Calls Tryd.prog 6 args W fun e W' => ∃ v, e = .returned v ∧ Rows.textOnceSpec.post enc Tryd.prog Tryd.f6 false fresh handsOn again W args v W' := by
  have hW' := hW
  obtain ⟨p, q, hA0, hV, rfl, hfz, hnd⟩ := hW
  have hA : DataW.TrodAll enc Tryd.prog W 0 (fun _ => true) true Tryd.f6.params.toList args.toList ds p := hA0
  rw [Tryd.params6] at hA hval
  obtain ⟨v0, vs0, d0, ds0, p0, q0, hargs, rfl, rfl, h0, r0⟩ := trodAll_cons hA
  obtain ⟨v1, vs1, d1, ds1, p1, q1, rfl, rfl, rfl, h1, r1⟩ := trodAll_cons r0
  obtain ⟨v2, vs2, d2, ds2, p2, q2, rfl, rfl, rfl, h2, r2⟩ := trodAll_cons r1
  obtain ⟨rfl, rfl, rfl⟩ := trodAll_nil r2
  obtain rfl : args = #[v0, v1, v2] := by cases args; simp_all
  obtain ⟨rfl, rfl⟩ := trodVars_none hV
  rw [Tryd.params6] at hz
  have hz := fun {j t d} (h1 : (#[(25 : TypeId), (25 : TypeId), (42 : TypeId)].toList ++ (OpenSpec.ofChange Rows.textOnceSpec).bare.plain.varTypes Tryd.prog)[j]? = some t) (h2 : ([d0, d1, d2] ++ [])[j]? = some d) m hm => of_decide_eq_true (List.all_eq_true.1 hz m (DataW.weights_mem_each h1 h2 m hm))
  obtain ⟨cs0, rfl⟩ := ok_agg Tryd.underlying25 (hval 0 25 v0 rfl rfl)
  obtain ⟨x0, hw0, hv0⟩ := arg_agg (G := fun _ => none) (n := 9) (show treeTy Tryd.prog 9 25 = true by kernel_rfl) h0 (hz (j := 0) rfl rfl)
  obtain ⟨a0, rfl, hk0⟩ := wt_Text hw0
  obtain ⟨cs1, rfl⟩ := ok_agg Tryd.underlying25 (hval 1 25 v1 rfl rfl)
  obtain ⟨x1, hw1, hv1⟩ := arg_agg (G := fun _ => none) (n := 9) (show treeTy Tryd.prog 9 25 = true by kernel_rfl) h1 (hz (j := 1) rfl rfl)
  obtain ⟨a1, rfl, hk1⟩ := wt_Text hw1
  obtain ⟨x2, hw2, hv2⟩ := arg_one (G := fun _ => none) (n := 9) (show treeTy Tryd.prog 9 42 = true by kernel_rfl) (ok_notAgg Tryd.underlying42 rfl (hval 2 42 v2 rfl rfl) (.inr (.inl ⟨_, rfl⟩))) h2 (hz (j := 2) rfl rfl)
  obtain ⟨a2, ha2, hk2⟩ := wt_u16 hw2
  cases ha2
  refine law_contract (L := Lx gam) (tb := 4) rfl (fun t ht => ⟨9, ?_⟩) rfl Tryd.underlying4 (fun W' => bool_okw rfl) rfl hW' (portolanlaw19_TextOnce_ok gam [] (hpl a0 a1 a2 hk0 hk1 hk2)) (glob_parts hL) rfl (fun j c hj => ?_)
  · rw [Tryd.params6] at ht
    simp only [List.mem_cons, List.not_mem_nil, or_false] at ht
    rcases ht with rfl | rfl | rfl
    · exact (show treeTy Tryd.prog 9 25 = true by kernel_rfl)
    · exact (show treeTy Tryd.prog 9 25 = true by kernel_rfl)
    · exact (show treeTy Tryd.prog 9 42 = true by kernel_rfl)
  · match j, hj with
    | 0, hj => simp at hj; subst hj; simpa [eI, eB, eS, e_Text] using hv0
    | 1, hj => simp at hj; subst hj; simpa [eI, eB, eS, e_Text] using hv1
    | 2, hj => simp at hj; subst hj; simpa [eI, eB, eS] using hv2
    | j + 3, hj => simp at hj
theorem own : ownKnob Tryd.prog.godebug = none := by kernel_rfl
set_option maxRecDepth 100000 in
theorem laid_met (os : Os) : laidMet Tryd.prog Rows.textOnceRow.laid ((laidWorld os).forCall (fun _ _ => 0) ⟨#[], #[.agg #[.slice none 0 0, .slice none 0 0, .slice none 0 0], .agg #[.slice none 0 0, .slice none 0 0, .slice none 0 0], .int .u16 0], []⟩).memory :=
  laidMet_of_run' 8 (by kernel_rfl) (by kernel_rfl)
theorem reads (os : Os) {H : Type} (enc : TypeId × Value → H) : ∃ places, DataW.whole enc Tryd.prog ((laidWorld os).forCall (fun _ _ => 0) ⟨#[], #[.agg #[.slice none 0 0, .slice none 0 0, .slice none 0 0], .agg #[.slice none 0 0, .slice none 0 0, .slice none 0 0], .int .u16 0], []⟩).memory Tryd.f6.params.toList Rows.textOnceSpec.vars false (#[(.agg #[.slice none 0 0, .slice none 0 0, .slice none 0 0] : Value), (.agg #[.slice none 0 0, .slice none 0 0, .slice none 0 0] : Value), (.int .u16 0 : Value)] : Array Value).toList 8 = some ([.agg [.nil, .nil, .nil], .agg [.nil, .nil, .nil], .lit (.int .u16 0)], [], places) :=
  ⟨[], by kernel_rfl⟩
set_option maxRecDepth 100000 in
theorem lifted (hpl : ∀ a0 a1 a2, okt_Text a0 → okt_Text a1 → okt_u16 a2 → portolanlaw19_TextOnce a0 a1 a2 = some true) (os : Os) (started : os.Started) (H : Type) (enc : TypeId × Value → H) (F : Stop.Interp) :
    ReturnsInHanded {} Tryd.checked os 6 .any ((OpenSpec.ofChange Rows.textOnceSpec).preRow enc Tryd.prog Tryd.f6 Rows.textOnceRow.domain false Rows.textOnceRow.laid) (((OpenSpec.ofChange Rows.textOnceSpec).at F).post enc Tryd.prog Tryd.f6 false true false false) := by
  obtain ⟨places, hx⟩ := reads os enc
  refine returnsInHanded_of_row (C := Tryd.checked) (s := (OpenSpec.ofChange Rows.textOnceSpec)) own started (by kernel_rfl) Tryd.func6
    (witness_row_at (enc := enc) (C := Tryd.checked) false (laidWorld os) #[.agg #[.slice none 0 0, .slice none 0 0, .slice none 0 0], .agg #[.slice none 0 0, .slice none 0 0, .slice none 0 0], .int .u16 0] rfl (by kernel_rfl) (by kernel_rfl) (by kernel_rfl)
      (OpenSpec.preRow_of_cond 8 hx (by kernel_rfl) (fun k hk => by cases hk) (by kernel_rfl) (laid_met os))) ?_
  intro W base args ds gs before hval hW _ _ hz hL _ _
  exact contract hpl H enc W base args ds gs before hval hW hz hL
set_option maxRecDepth 100000 in
theorem said (hpl : ∀ a0 a1 a2, okt_Text a0 → okt_Text a1 → okt_u16 a2 → portolanlaw19_TextOnce a0 a1 a2 = some true) : Rows.TextOnceSaid :=
  OpenClaim.holds_of_cond 6 Tryd.f6 rfl rfl rfl rfl rfl rfl rfl ⟨rfl, rfl, rfl, rfl, rfl⟩ rfl rfl rfl rfl rfl (by kernel_rfl) Tryd.func6 (by kernel_rfl)
    (of_decide_eq_true (by kernel_rfl)) (by unfold Func.isWrapper; first | (rw [if_pos (by decide +kernel)]; kernel_rfl) | (rw [if_neg (by decide +kernel)]; exact ⟨rfl, rfl⟩))
    (fun os started H enc _ F => by rw [OpenClaim.pre_eq_preRow]; exact lifted hpl os started H enc F)
theorem plainL (f : FuncId) (fn : Func) (hf : Tryd.pinned.checked.prog.funcNamed "portolan/portolanlaw19.TextOnce" = some f) (hfn : Tryd.pinned.checked.prog.funcs[f]? = some fn) :
    false = Tryd.pinned.checked.prog.looks [] ∧ ∀ (j : Nat) t, fn.params[j]? = some t → Tryd.pinned.checked.prog.wantsStandIn t = false := by
  obtain rfl : f = 6 := Option.some.inj ((show Tryd.prog.funcNamed "portolan/portolanlaw19.TextOnce" = some 6 by kernel_rfl).symm.trans hf) |>.symm
  obtain rfl : fn = Tryd.f6 := (Option.some.inj (Tryd.func6.symm.trans hfn)).symm
  refine ⟨by kernel_rfl, fun j t ht => ?_⟩
  rw [Tryd.params6] at ht
  have ht := Array.mem_of_getElem? ht
  simp only [List.mem_toArray, List.mem_cons, List.not_mem_nil, or_false] at ht
  rcases ht with rfl | rfl | rfl
  · exact (show Tryd.prog.wantsStandIn 25 = false by kernel_rfl)
  · exact (show Tryd.prog.wantsStandIn 25 = false by kernel_rfl)
  · exact (show Tryd.prog.wantsStandIn 42 = false by kernel_rfl)
theorem card (hpl : ∀ a0 a1 a2, okt_Text a0 → okt_Text a1 → okt_u16 a2 → portolanlaw19_TextOnce a0 a1 a2 = some true) : Rows.TextOnceCardSaid :=
  Claim7.holds_tied_plain_at .later [] _ _ _ _ (said hpl) (fun _ h => by cases h) (by kernel_rfl) (fun _ h => by cases h) textOnce_row_tie rfl ⟨rfl, rfl⟩ (by kernel_rfl) rfl plainL (by kernel_rfl)
end Go.Pf
end
namespace Go.Pf
theorem ok_text {a : Text} (h : okt_Text a) : boundT a ∧ okText a := by
  obtain ⟨⟨h1, h2⟩, ⟨h3, h4⟩, h5, h6⟩ := h
  refine ⟨⟨by omega, by omega, by omega, fun x hx => ?_⟩, ⟨fun x hx => ?_, h4, h6⟩⟩
  · obtain ⟨_, _, _, _, _, _, _, h7, _⟩ := h2 x hx; omega
  · obtain ⟨ho, _, _, _, _, hn, hm, _⟩ := h2 x hx; exact ⟨ho, hn, hm⟩
end Go.Pf
namespace Go.Proofs.YtkjhkbolchkkhaaDoor
theorem textOnce_proved : Rows.TextOnceCardSaid := Go.Pf.card fun _ _ _ h k l => Go.Pf.TextOnce_plain (Go.Pf.ok_text h).1 (Go.Pf.ok_text h).2 (Go.Pf.ok_text k).1 (Go.Pf.ok_text k).2 l
end Go.Proofs.YtkjhkbolchkkhaaDoor
