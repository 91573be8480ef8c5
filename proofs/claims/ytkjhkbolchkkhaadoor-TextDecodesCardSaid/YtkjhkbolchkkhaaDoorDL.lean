/- Any bytes are the document's text, or refused: the law TextDecodes holds. No condition beyond the form's own reach. -/
import Derived.Deep.DeepHandedRow
import Derived.Lib.LaidTab
import Derived.OpenShut
import Derived.ProofKit
import Derived.Test.YtkjhkbolchkkhaaDoorCards
import Derived.Test.YtkjhkbolchkkhaaDoorTie
import Derived.WalkKit
import Derived.Test.YtkjhkbolchkkhaaDoorDK2
import Derived.Test.YtkjhkbolchkkhaaDoorP1
set_option linter.all false
section
/- The link of law19: what all five cards share. -/
namespace Go.Pf
open Go Go.Ab Go.Pp Go.Proofs Go.Proofs.S19 Go.Proofs.YtkjhkbolchkkhaaDoor
theorem gParts : Tryd.prog.globalNamed "portolan/code.parts" = some 0 := by kernel_rfl
theorem gPartsType : (Tryd.prog.globals[0]?).map (·.type) = some 83 := by kernel_rfl
theorem cells9 : Tryd.prog.cellsOf 9 = 1 := by kernel_rfl
theorem cells83 : Tryd.prog.cellsOf 83 = 24 := by kernel_rfl
theorem parts_data {H : Type} : (Rows.laid_portolan_code_parts : DataW H) = .agg (Go.Pf.partsL.map fun s => DataW.lit (.string s.data.toList)) := by rfl
theorem glob_parts {W : World} (h : laidMetH Tryd.prog [("portolan/code.parts", Rows.laid_portolan_code_parts)] W) : Glob gam (memOf W) := by
  obtain ⟨ps, ⟨g', t', cs, fuel, p, q, hg', ht', hvar, hd, _, _⟩, _⟩ := h
  obtain rfl := Option.some.inj (gParts.symm.trans hg')
  obtain rfl := Option.some.inj (gPartsType.symm.trans ht')
  obtain ⟨xs, m, rfl, hx, hl, hxl, hget⟩ := DataW.trod_array Tryd.underlying83 hd
  rw [parts_data] at hx
  simp only [Prod.mk.injEq, DataW.agg.injEq] at hx
  intro g vs hγ j v hj
  unfold gam at hγ
  split at hγ
  · rename_i h0
    subst h0
    cases hγ
    simp only [List.getElem?_map, Option.map_eq_some_iff] at hj
    obtain ⟨s, hs, rfl⟩ := hj
    have hj24 : j < 24 := by
      have := (List.getElem?_eq_some_iff.1 hs).1
      exact this
    have h1 := hget j hj24
    have hxj : ∃ r, xs[j]? = some (DataW.lit (.string s.data.toList), r) := by
      have h2 : (xs.map (·.1))[j]? = some (DataW.lit (.string s.data.toList)) := by rw [← hx.1, List.getElem?_map, hs]; rfl
      simp only [List.getElem?_map, Option.map_eq_some_iff] at h2
      obtain ⟨⟨a, b⟩, h3, h4⟩ := h2
      exact ⟨b, by rw [h3]; simp only at h4; rw [h4]⟩
    obtain ⟨r, hr⟩ := hxj
    rw [hr, cells9] at h1
    obtain ⟨s', e1, e2, _⟩ := DataW.trod_string Tryd.underlying9 h1
    have hss : s' = s := by
      simp only [Prod.mk.injEq, DataW.lit.injEq, Lit.string.injEq] at e2
      have := e2.1
      cases s' with | mk d' => cases s with | mk d => simp at this; rw [this]
    subst hss
    have hcs : cs[j]? = some (.string s') := by
      have := congrArg (fun l => l[0]?) e1
      simpa using this
    exact (cell_mem (by rw [World.var?_cell gParts hvar j]; exact hcs)).1
  · cases hγ
noncomputable def laidWorld (os : Os) : World :=
  { World.holding Tryd.prog os ⟨#[], #[], []⟩ with heap := (World.holding Tryd.prog os ⟨#[], #[], []⟩).heap.modify 0 fun
      | .cells _ t frozen => .cells (Go.Pf.partsL.map Value.string).toArray t frozen
      | o => o }
end Go.Pf
end
section
set_option linter.all false
namespace Go.Pf
open Go Go.Ab Go.Pp Go.Proofs Go.Proofs.S19 Go.Proofs.YtkjhkbolchkkhaaDoor Go.ChangeShapes Go.WideShapes Go.ChangeAt Go.RowKit
set_option maxRecDepth 100000
def okt_u8 (a : Int) : Prop := 0 ≤ a ∧ a ≤ 255
theorem wt_u8 {ts : List Tr} (h : WT Tryd.prog 5 ts) : ∃ a : Int, ts = (eI .u8) a ∧ okt_u8 a := by
  obtain ⟨n, rfl, hn⟩ := h.int_inv Tryd.underlying5
  exact ⟨n, rfl, bounds_u8 hn⟩
def okt_L_u8 (a : List Int) : Prop := a.length * 1 ≤ 140737488351232 ∧ ∀ x ∈ a, okt_u8 x
theorem cellsOf5 : Tryd.prog.cellsOf 5 = 1 := by kernel_rfl
theorem bytesOf5 : Tryd.prog.bytesOf 5 = 1 := by kernel_rfl
theorem wt_L_u8 {ts : List Tr} (h : WT Tryd.prog 28 ts) : ∃ a : List Int, ts = [.sl 1 false (List.map (eI .u8) a)] ∧ okt_L_u8 a := by
  obtain ⟨es, rfl, hl, he⟩ := h.sl_inv Tryd.underlying28
  obtain ⟨l, rfl, hll, hk⟩ := map_inv (fun x => wt_u8) he
  rw [bytesOf5, ← hll] at hl
  exact ⟨l, by rw [cellsOf5], hl, hk⟩
theorem bool_okw {W' : World} {fn : Func} (hr : fn.resultTypes = #[4]) : ∀ (j : Nat) (t : TypeId) (r : Value), fn.resultTypes[j]? = some t → ((Value.bool true).resultList fn.resultTypes.size)[j]? = some r → Value.okWide Tryd.prog W' .any 0 t r :=
  by rw [hr]; intro j t r h1 h2; match j, h1, h2 with | 0, h1, h2 => simp at h1 h2; subst h1; simp [Value.resultList] at h2; subst h2; exact okWide_bool_mk Tryd.underlying4 _ | j + 1, h1, h2 => simp at h1
theorem contract (hpl : ∀ a0, okt_L_u8 a0 → portolanlaw19_TextDecodes a0 = some true) (H : Type) (enc : TypeId × Value → H) (W : World) (base : Nat) (args : Array Value) (ds gs : List (DataW H)) (before : List MemPlace)
    (hval : ∀ (j : Nat) t v, Tryd.f4.params[j]? = some t → args[j]? = some v → Value.okWide Tryd.prog W .any base t v)
    (hW : DataW.Whole enc Tryd.prog Tryd.f4.params.toList Rows.textDecodesSpec.vars false W args.toList ds gs before) (hz : (DataW.weightsEach Tryd.prog (Tryd.f4.params.toList ++ (OpenSpec.ofChange Rows.textDecodesSpec).bare.plain.varTypes Tryd.prog) (ds ++ gs)).all (· ≤ reachBytes) = true) (hL : laidMetH Tryd.prog Rows.textDecodesRow.laid W) {fresh handsOn again : Bool} :
    Calls Tryd.prog 4 args W fun e W' => ∃ v, e = .returned v ∧ Rows.textDecodesSpec.post enc Tryd.prog Tryd.f4 false fresh handsOn again W args v W' := by
  have hW' := hW
  obtain ⟨p, q, hA0, hV, rfl, hfz, hnd⟩ := hW
  have hA : DataW.TrodAll enc Tryd.prog W 0 (fun _ => true) true Tryd.f4.params.toList args.toList ds p := hA0
  rw [Tryd.params4] at hA hval
  obtain ⟨v0, vs0, d0, ds0, p0, q0, hargs, rfl, rfl, h0, r0⟩ := trodAll_cons hA
  obtain ⟨rfl, rfl, rfl⟩ := trodAll_nil r0
  obtain rfl : args = #[v0] := by cases args; simp_all
  obtain ⟨rfl, rfl⟩ := trodVars_none hV
  rw [Tryd.params4] at hz
  have hz := fun {j t d} (h1 : (#[(28 : TypeId)].toList ++ (OpenSpec.ofChange Rows.textDecodesSpec).bare.plain.varTypes Tryd.prog)[j]? = some t) (h2 : ([d0] ++ [])[j]? = some d) m hm => of_decide_eq_true (List.all_eq_true.1 hz m (DataW.weights_mem_each h1 h2 m hm))
  obtain ⟨x0, hw0, hv0⟩ := arg_one (G := fun _ => none) (n := 9) (show treeTy Tryd.prog 9 28 = true by kernel_rfl) (ok_notAgg Tryd.underlying28 rfl (hval 0 28 v0 rfl rfl) (.inr (.inr (.inr ⟨_, rfl⟩)))) h0 (hz (j := 0) rfl rfl)
  obtain ⟨a0, ha0, hk0⟩ := wt_L_u8 hw0
  cases ha0
  refine law_contract (L := Lx gam) (tb := 4) rfl (fun t ht => ⟨9, ?_⟩) rfl Tryd.underlying4 (fun W' => bool_okw rfl) rfl hW' (portolanlaw19_TextDecodes_ok gam [] (hpl a0 hk0)) (glob_parts hL) rfl (fun j c hj => ?_)
  · rw [Tryd.params4] at ht
    simp only [List.mem_cons, List.not_mem_nil, or_false] at ht
    rcases ht with rfl
    · exact (show treeTy Tryd.prog 9 28 = true by kernel_rfl)
  · match j, hj with
    | 0, hj => simp at hj; subst hj; simpa [eI, eB, eS] using hv0
    | j + 1, hj => simp at hj
theorem own : ownKnob Tryd.prog.godebug = none := by kernel_rfl
set_option maxRecDepth 100000 in
theorem laid_met (os : Os) : laidMet Tryd.prog Rows.textDecodesRow.laid ((laidWorld os).forCall (fun _ _ => 0) ⟨#[], #[.slice none 0 0], []⟩).memory :=
  laidMet_of_run' 8 (by kernel_rfl) (by kernel_rfl)
theorem reads (os : Os) {H : Type} (enc : TypeId × Value → H) : ∃ places, DataW.whole enc Tryd.prog ((laidWorld os).forCall (fun _ _ => 0) ⟨#[], #[.slice none 0 0], []⟩).memory Tryd.f4.params.toList Rows.textDecodesSpec.vars false (#[(.slice none 0 0 : Value)] : Array Value).toList 8 = some ([.nil], [], places) :=
  ⟨[], by kernel_rfl⟩
set_option maxRecDepth 100000 in
theorem lifted (hpl : ∀ a0, okt_L_u8 a0 → portolanlaw19_TextDecodes a0 = some true) (os : Os) (started : os.Started) (H : Type) (enc : TypeId × Value → H) (F : Stop.Interp) :
    ReturnsInHanded {} Tryd.checked os 4 .any ((OpenSpec.ofChange Rows.textDecodesSpec).preRow enc Tryd.prog Tryd.f4 Rows.textDecodesRow.domain false Rows.textDecodesRow.laid) (((OpenSpec.ofChange Rows.textDecodesSpec).at F).post enc Tryd.prog Tryd.f4 false true false false) := by
  obtain ⟨places, hx⟩ := reads os enc
  refine returnsInHanded_of_row (C := Tryd.checked) (s := (OpenSpec.ofChange Rows.textDecodesSpec)) own started (by kernel_rfl) Tryd.func4
    (witness_row_at (enc := enc) (C := Tryd.checked) false (laidWorld os) #[.slice none 0 0] rfl (by kernel_rfl) (by kernel_rfl) (by kernel_rfl)
      (OpenSpec.preRow_of_cond 8 hx (by kernel_rfl) (fun k hk => by cases hk) (by kernel_rfl) (laid_met os))) ?_
  intro W base args ds gs before hval hW _ _ hz hL _ _
  exact contract hpl H enc W base args ds gs before hval hW hz hL
set_option maxRecDepth 100000 in
theorem said (hpl : ∀ a0, okt_L_u8 a0 → portolanlaw19_TextDecodes a0 = some true) : Rows.TextDecodesSaid :=
  OpenClaim.holds_of_cond 4 Tryd.f4 rfl rfl rfl rfl rfl rfl rfl ⟨rfl, rfl, rfl, rfl, rfl⟩ rfl rfl rfl rfl rfl (by kernel_rfl) Tryd.func4 (by kernel_rfl)
    (of_decide_eq_true (by kernel_rfl)) (by unfold Func.isWrapper; first | (rw [if_pos (by decide +kernel)]; kernel_rfl) | (rw [if_neg (by decide +kernel)]; exact ⟨rfl, rfl⟩))
    (fun os started H enc _ F => by rw [OpenClaim.pre_eq_preRow]; exact lifted hpl os started H enc F)
theorem plainL (f : FuncId) (fn : Func) (hf : Tryd.pinned.checked.prog.funcNamed "portolan/portolanlaw19.TextDecodes" = some f) (hfn : Tryd.pinned.checked.prog.funcs[f]? = some fn) :
    false = Tryd.pinned.checked.prog.looks [] ∧ ∀ (j : Nat) t, fn.params[j]? = some t → Tryd.pinned.checked.prog.wantsStandIn t = false := by
  obtain rfl : f = 4 := Option.some.inj ((show Tryd.prog.funcNamed "portolan/portolanlaw19.TextDecodes" = some 4 by kernel_rfl).symm.trans hf) |>.symm
  obtain rfl : fn = Tryd.f4 := (Option.some.inj (Tryd.func4.symm.trans hfn)).symm
  refine ⟨by kernel_rfl, fun j t ht => ?_⟩
  rw [Tryd.params4] at ht
  have ht := Array.mem_of_getElem? ht
  simp only [List.mem_toArray, List.mem_cons, List.not_mem_nil, or_false] at ht
  rcases ht with rfl
  · exact (show Tryd.prog.wantsStandIn 28 = false by kernel_rfl)
theorem card (hpl : ∀ a0, okt_L_u8 a0 → portolanlaw19_TextDecodes a0 = some true) : Rows.TextDecodesCardSaid :=
  Claim7.holds_tied_plain_at .later [] _ _ _ _ (said hpl) (fun _ h => by cases h) (by kernel_rfl) (fun _ h => by cases h) textDecodes_row_tie rfl ⟨rfl, rfl⟩ (by kernel_rfl) rfl plainL (by kernel_rfl)
end Go.Pf
end
namespace Go.Proofs.YtkjhkbolchkkhaaDoor
theorem textDecodes_proved : Rows.TextDecodesCardSaid := Go.Pf.card fun _ h => Go.Pf.TextDecodes_plain h.2
end Go.Proofs.YtkjhkbolchkkhaaDoor
