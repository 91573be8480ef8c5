/- Each function computes what its plain one says, part 1 -/
import Derived.Test.YtcbbchfhfacbdaaDoorU1
import Derived.Test.YtcbbchfhfacbdaaDoorH1
set_option linter.all false
section
namespace Go.Pf
open Go Go.Ab Go.Pp
def e_Ins (x : Ins) : List Tr := [.lit (.int .i64 x.Op), .lit (.int .i64 x.D), .lit (.int .i64 x.A), .lit (.int .i64 x.B), .lit (.int .i64 x.N), .lit (.int .i64 x.M), .sl 1 false (List.map (eI .i64) x.Args)]
def e_Block (x : Block) : List Tr := [.sl 7 false (List.map e_Ins x.Code)]
def e_Func (x : Func) : List Tr := [.sl 1 false (List.map (eI .i64) x.Kinds), .sl 1 false (List.map (eI .i64) x.Base), .lit (.int .i64 x.Params), .lit (.int .i64 x.Result), .sl 1 false (List.map e_Block x.Blocks)]
def e_Prog (x : Prog) : List Tr := [.sl 5 false (List.map e_Func x.Funcs)]
def e_code_writer (x : code_writer) : List Tr := [.sl 1 false (List.map (eI .u8) x.b), .lit (.bool x.bad)]
def e_code_reader (x : code_reader) : List Tr := [.sl 1 false (List.map (eI .u8) x.b), .lit (.int .i64 x.err)]
def e_Edge (x : Edge) : List Tr := [.lit (.int .i64 x.From), .lit (.int .i64 x.To)]
end Go.Pf
end
section
set_option maxRecDepth 100000
namespace Go.Pf
open Go Go.Ab Go.Pp Go.Proofs Go.Proofs.S04
attribute [local go_sem] Lxτ Lxγ gam0 Int.toNat_natCast tau3 eI eB eS e_Ins e_Block e_Func e_Prog e_code_writer e_code_reader e_Edge
set_option maxHeartbeats 1000000 in
theorem shape_within_ok (γ : GT) (ob : OT) {a0 : Int} {a1 : Int} {a2 : Int} {r : Bool} (h : shape_within a0 a1 a2 = some r) :
  Valid (Lx γ) 36 [vint .i64 a0, vint .i64 a1, vint .i64 a2] ob (vbool r) ob := by
 refine valid_X (lx_ok γ) (fn := Tryd.f36) (rs := [.tmp 6]) Tryd.func36 (by kernel_rfl) rfl rfl Tryd.ntmps36 rfl (by simp) fun hb hob => ?_
 rw [shape_within] at h
 refine X_sr (lx_ok γ) ?_
 simp -implicitDefEqProofs only [go_sem, seval]
 refine X_sr (lx_ok γ) ?_
 cases f1 : decide (a1 ≤ a0)
 ·rw [if_neg (nF f1)] at h
  simp -implicitDefEqProofs only [go_sem, seval, f1]
  obtain rfl := sI h
  refine X_ret ?_
  simp -implicitDefEqProofs only [go_sem, seval, f1]
  exact Rt.mv1 (BaseR.refl hob) (by simp) (vS)
 ·rw [if_pos f1] at h
  simp -implicitDefEqProofs only [go_sem, seval, f1]
  obtain rfl := sI h
  refine X_ret ?_
  simp -implicitDefEqProofs only [go_sem, seval, f1]
  exact Rt.mv1 (BaseR.refl hob) (by simp) (vS)
end Go.Pf
end
section
set_option maxRecDepth 100000
namespace Go.Pf
open Go Go.Ab Go.Pp Go.Proofs Go.Proofs.S04
attribute [local go_sem] Lxτ Lxγ gam0 Int.toNat_natCast tau3 tau4 tau28 tau29 tau31 tau35 tau42 tau44 eI eB eS e_Ins e_Block e_Func e_Prog e_code_writer e_code_reader e_Edge
set_option maxHeartbeats 1000000 in
theorem shape_kinds_ok (γ : GT) (ob : OT) {a0 : Func} {v0_0 : V} {v0_1 : V} {v0_4 : V} (hv0_0 : rdK (getO ob) 1 v0_0 = some (List.map (eI .i64) a0.Kinds)) (hv0_1 : rdK (getO ob) 1 v0_1 = some (List.map (eI .i64) a0.Base)) (hv0_4 : rdK (getO ob) 1 v0_4 = some (List.map e_Block a0.Blocks)) {r : Bool} (h : shape_kinds a0 = some r) :
  Valid (Lx γ) 35 [V.agg [v0_0, v0_1, vint .i64 a0.Params, vint .i64 a0.Result, v0_4]] ob (vbool r) ob := by
 refine valid_X (lx_ok γ) (fn := Tryd.f35) (rs := [.tmp 2]) Tryd.func35 (by kernel_rfl) rfl rfl Tryd.ntmps35 rfl (by simp) fun hb hob => ?_
 have hq := And.intro (rd4 hv0_0) (And.intro (rd4 hv0_1) (rd4 hv0_4))
 rw [shape_kinds] at h
 refine X_sr (lx_ok γ) ?_
 simp -implicitDefEqProofs only [go_sem, seval, hq]
 refine X_seq ?_
 refine X_seq ?_
 refine X_jq (J := fun as1 ob1 => ∃ (x2 : Bool), shape_kinds.j1 a0 x2 = some r ∧ [(1, V.ref ob.length 0), (18, vbool x2)] = as1 ∧ ob ++ [some (O.box [v0_0, v0_1, vint .i64 a0.Params, vint .i64 a0.Result, v0_4])] = ob1) ?_ ?_
 ·rintro as1 ob1 ⟨x2, h, rfl, rfl⟩
  rw [shape_kinds.j1] at h
  simp -implicitDefEqProofs only [go_sem, seval, hq]
  cases f1 : x2
  ·rw [if_neg (nF f1)] at h
   refine X_cond (lx_ok γ) ?_
   simp -implicitDefEqProofs only [go_sem, seval, f1, hq]
   refine X_skip ?_
   try simp -implicitDefEqProofs only [go_sem]
   refine X_seq ?_
   refine X_sr (lx_ok γ) ?_
   simp -implicitDefEqProofs only [go_sem, seval, f1, hq]
   refine X_jq (J := fun as1 ob1 => shape_kinds.k1 = some r ∧ [] = as1 ∧ ob = ob1) ?_ ?_
   ·rintro as1 ob1 ⟨h, rfl, rfl⟩
    rw [shape_kinds.k1] at h
    simp -implicitDefEqProofs only [go_sem, seval, f1, hq]
    refine X_sr (lx_ok γ) ?_
    simp -implicitDefEqProofs only [go_sem, seval, f1, hq]
    obtain rfl := sI h
    refine X_ret ?_
    simp -implicitDefEqProofs only [go_sem, seval, f1, hq]
    exact Rt.mv1 (BaseR.refl hob) (by simp) (vS)
   ·refine X_block ?_
    obtain ⟨lr1, hl1, hk1, hr1⟩ := aft2 h
    refine X_forN hl1 (fun (i1 : Nat) (s : Unit) as1 ob1 => [(1, V.ref ob.length 0), (20, v0_0), (21, vint .i64 (List.length a0.Kinds : Int)), (22, vint .i64 (i1 : Int))] = as1 ∧ ob ++ [some (O.box [v0_0, v0_1, vint .i64 a0.Params, vint .i64 a0.Result, v0_4])] = ob1) ⟨_, _, ?_, rfl, rfl⟩ ?_ ?_
    ·exact To.mv [(0, 0)] (BaseR.refl hob) (by simp) (by decide) (by simp only [go_sem]; exact ⟨VM.refA (j := 0) (t := 0) rfl, VM.self (by simpa using Bd.of_rdK hv0_0), vS, VM.eqv (by simp) (by simp)⟩) ⟨⟨_, rfl, OM.box _ _ ⟨VM.self (by simpa using Bd.of_rdK hv0_0), VM.self (by simpa using Bd.of_rdK hv0_1), vS, vS, VM.self (by simpa using Bd.of_rdK hv0_4), trivial⟩⟩, trivial⟩
    ·rintro i1 _ o1 hi1 hw1 h ho1 as1 ob1 ⟨rfl, rfl⟩
     rw [shape_kinds.b1] at h
     refine X_sr (lx_ok γ) ?_
     simp -implicitDefEqProofs only [go_sem, seval, f1, hi1, hq]
     refine X_seq ?_
     refine X_cond (lx_ok γ) ?_
     simp -implicitDefEqProofs only [go_sem, seval, f1, hi1, hq]
     refine X_skip ?_
     try simp -implicitDefEqProofs only [go_sem]
     refine X_seq ?_
     refine X_block ?_
     refine X_sr (lx_ok γ) ?_
     obtain ⟨x4, f2, h⟩ := bindE h
     obtain ⟨f3, f4⟩ := ixL_nat f2
     have f5 : (0 : Int) ≤ (i1 : Int) := Int.natCast_nonneg _
     simp -implicitDefEqProofs only [go_sem, seval, f1, hi1, hq, f3, f4, f5]
     refine X_sr (lx_ok γ) ?_
     obtain ⟨x5, f6, h⟩ := bindE h
     obtain ⟨f7, f8⟩ := ixL_nat f6
     have f9 : (0 : Int) ≤ (i1 : Int) := Int.natCast_nonneg _
     simp -implicitDefEqProofs only [go_sem, seval, f1, hi1, hq, f7, f8, f9]
     refine X_block ?_
     refine X_seq ?_
     refine X_jq (J := fun as1 ob1 => ∃ (x7 : Bool), shape_kinds.j2 a0 x4 x5 x7 = some o1 ∧ [(1, V.ref ob.length 0), (4, vint .i64 x4), (5, vint .i64 x5), (20, v0_0), (21, vint .i64 (List.length a0.Kinds : Int)), (22, vint .i64 (i1 : Int)), (32, vbool x7)] = as1 ∧ ob ++ [some (O.box [v0_0, v0_1, vint .i64 a0.Params, vint .i64 a0.Result, v0_4])] = ob1) ?_ ?_
     ·rintro as1 ob1 ⟨x7, h, rfl, rfl⟩
      rw [shape_kinds.j2] at h
      simp -implicitDefEqProofs only [go_sem, seval, f1, hi1, hq]
      cases f10 : x7
      ·rw [if_neg (nF f10)] at h
       refine X_cond (lx_ok γ) ?_
       simp -implicitDefEqProofs only [go_sem, seval, f1, hi1, f10, hq]
       refine X_sr (lx_ok γ) ?_
       cases f11 : (x4 != 2)
       ·rw [if_neg (nF f11)] at h
        obtain ⟨x8, f12, h⟩ := bindE h
        simp -implicitDefEqProofs only [go_sem, seval, f1, hi1, f10, f11, hq]
        refine callV_eq (shape_within_ok γ _  f12) rfl rfl ?_
        cases f13 : x8
        ·rw [if_neg (nF f13)] at h
         simp -implicitDefEqProofs only [go_sem, seval, f1, hi1, f10, f11, f13, hq]
         refine X_condT (lx_ok γ) rfl ?_
         refine X_sr (lx_ok γ) ?_
         simp -implicitDefEqProofs only [go_sem, seval, f1, hi1, f10, f11, f13, hq]
         obtain rfl := sI h
         have h := hr1 _ (ho1 (fun _ hs => nomatch hs))
         obtain rfl := sI h
         refine X_ret ?_
         simp -implicitDefEqProofs only [go_sem, seval, f1, hi1, f10, f11, f13, hq]
         exact Rt.mv0 (BaseR.refl hob) (by simp) (vS)
        ·rw [if_pos f13] at h
         obtain ⟨x9, f14, h⟩ := bindE h
         obtain ⟨f15, f16, f17⟩ := ixL_some f14
         try simp only [Int.toNat_natCast, Int.reduceToNat] at f17
         simp -implicitDefEqProofs only [go_sem, seval, f1, hi1, f10, f11, f13, hq, f15, f16, f17]
         cases f18 : (x9 != 1)
         ·rw [if_neg (nF f18)] at h
          refine X_cond (lx_ok γ) ?_
          simp -implicitDefEqProofs only [go_sem, seval, f1, hi1, f10, f11, f13, f18, hq, f15, f16, f17]
          refine X_skip ?_
          try simp -implicitDefEqProofs only [go_sem]
          refine X_reg (lx_ok γ) ?_
          obtain rfl := sI h
          simp -implicitDefEqProofs only [go_sem, seval, f1, hi1, f10, f11, f13, f18, hq]
          refine kR_in rfl ?_ ⟨rfl, rfl⟩
          exact To.mv [(0, 0)] (BaseR.refl hob) (by simp) (by decide) (by simp only [go_sem]; exact ⟨VM.refA (j := 0) (t := 0) rfl, VM.self (by simpa using Bd.of_rdK hv0_0), vS, VM.eqv (by rw [hw1]) (by simp)⟩) ⟨⟨_, rfl, OM.box _ _ ⟨VM.self (by simpa using Bd.of_rdK hv0_0), VM.self (by simpa using Bd.of_rdK hv0_1), vS, vS, VM.self (by simpa using Bd.of_rdK hv0_4), trivial⟩⟩, trivial⟩
         ·rw [if_pos f18] at h
          refine X_cond (lx_ok γ) ?_
          simp -implicitDefEqProofs only [go_sem, seval, f1, hi1, f10, f11, f13, f18, hq, f15, f16, f17]
          refine X_sr (lx_ok γ) ?_
          simp -implicitDefEqProofs only [go_sem, seval, f1, hi1, f10, f11, f13, f18, hq]
          obtain rfl := sI h
          have h := hr1 _ (ho1 (fun _ hs => nomatch hs))
          obtain rfl := sI h
          refine X_ret ?_
          simp -implicitDefEqProofs only [go_sem, seval, f1, hi1, f10, f11, f13, f18, hq]
          exact Rt.mv0 (BaseR.refl hob) (by simp) (vS)
       ·rw [if_pos f11] at h
        simp -implicitDefEqProofs only [go_sem, seval, f1, hi1, f10, f11, hq]
        refine X_condT (lx_ok γ) rfl ?_
        refine X_sr (lx_ok γ) ?_
        simp -implicitDefEqProofs only [go_sem, seval, f1, hi1, f10, f11, hq]
        obtain rfl := sI h
        have h := hr1 _ (ho1 (fun _ hs => nomatch hs))
        obtain rfl := sI h
        refine X_ret ?_
        simp -implicitDefEqProofs only [go_sem, seval, f1, hi1, f10, f11, hq]
        exact Rt.mv0 (BaseR.refl hob) (by simp) (vS)
      ·rw [if_pos f10] at h
       refine X_cond (lx_ok γ) ?_
       simp -implicitDefEqProofs only [go_sem, seval, f1, hi1, f10, hq]
       refine X_sr (lx_ok γ) ?_
       simp -implicitDefEqProofs only [go_sem, seval, f1, hi1, f10, hq]
       cases f19 : (x5 != (-1))
       ·rw [if_neg (nF f19)] at h
        refine X_cond (lx_ok γ) ?_
        simp -implicitDefEqProofs only [go_sem, seval, f1, hi1, f10, f19, hq]
        refine X_skip ?_
        try simp -implicitDefEqProofs only [go_sem]
        refine X_reg (lx_ok γ) ?_
        obtain rfl := sI h
        simp -implicitDefEqProofs only [go_sem, seval, f1, hi1, f10, f19, hq]
        refine kR_in rfl ?_ ⟨rfl, rfl⟩
        exact To.mv [(0, 0)] (BaseR.refl hob) (by simp) (by decide) (by simp only [go_sem]; exact ⟨VM.refA (j := 0) (t := 0) rfl, VM.self (by simpa using Bd.of_rdK hv0_0), vS, VM.eqv (by rw [hw1]) (by simp)⟩) ⟨⟨_, rfl, OM.box _ _ ⟨VM.self (by simpa using Bd.of_rdK hv0_0), VM.self (by simpa using Bd.of_rdK hv0_1), vS, vS, VM.self (by simpa using Bd.of_rdK hv0_4), trivial⟩⟩, trivial⟩
       ·rw [if_pos f19] at h
        refine X_cond (lx_ok γ) ?_
        simp -implicitDefEqProofs only [go_sem, seval, f1, hi1, f10, f19, hq]
        refine X_sr (lx_ok γ) ?_
        simp -implicitDefEqProofs only [go_sem, seval, f1, hi1, f10, f19, hq]
        obtain rfl := sI h
        have h := hr1 _ (ho1 (fun _ hs => nomatch hs))
        obtain rfl := sI h
        refine X_ret ?_
        simp -implicitDefEqProofs only [go_sem, seval, f1, hi1, f10, f19, hq]
        exact Rt.mv0 (BaseR.refl hob) (by simp) (vS)
     ·refine X_reg (lx_ok γ) ?_
      cases f20 : (x4 == 0)
      ·rw [if_neg (nF f20)] at h
       simp -implicitDefEqProofs only [go_sem, seval, f1, hi1, f20, hq]
       refine kJ_in ?_ ⟨(x4 == 1), h, rfl, rfl⟩
       exact To.mv [(0, 0)] (BaseR.refl hob) (by simp) (by decide) (by simp only [go_sem]; exact ⟨VM.refA (j := 0) (t := 0) rfl, vS, vS, VM.self (by simpa using Bd.of_rdK hv0_0), vS, vS, vS⟩) ⟨⟨_, rfl, OM.box _ _ ⟨VM.self (by simpa using Bd.of_rdK hv0_0), VM.self (by simpa using Bd.of_rdK hv0_1), vS, vS, VM.self (by simpa using Bd.of_rdK hv0_4), trivial⟩⟩, trivial⟩
      ·rw [if_pos f20] at h
       simp -implicitDefEqProofs only [go_sem, seval, f1, hi1, f20, hq]
       refine kJ_in ?_ ⟨true, h, rfl, rfl⟩
       exact To.mv [(0, 0)] (BaseR.refl hob) (by simp) (by decide) (by simp only [go_sem]; exact ⟨VM.refA (j := 0) (t := 0) rfl, vS, vS, VM.self (by simpa using Bd.of_rdK hv0_0), vS, vS, vS⟩) ⟨⟨_, rfl, OM.box _ _ ⟨VM.self (by simpa using Bd.of_rdK hv0_0), VM.self (by simpa using Bd.of_rdK hv0_1), vS, vS, VM.self (by simpa using Bd.of_rdK hv0_4), trivial⟩⟩, trivial⟩
    ·rintro i1 _ hi1 hn1 as1 ob1 ⟨rfl, rfl⟩
     refine X_sr (lx_ok γ) ?_
     simp -implicitDefEqProofs only [go_sem, seval, f1, hi1, hq]
     refine X_seq ?_
     refine X_cond (lx_ok γ) ?_
     simp -implicitDefEqProofs only [go_sem, seval, f1, hi1, hq]
     have h := hk1 _ (.inl hn1)
     refine X_exit ?_
     try simp -implicitDefEqProofs only [go_sem, ↓reduceIte, Nat.reduceEqDiff, reduceCtorEq]
     refine kJ_in ?_ ⟨h, rfl, rfl⟩
     exact To.mv0 (BaseR.refl hob) (by simp) trivial
  ·rw [if_pos f1] at h
   refine X_cond (lx_ok γ) ?_
   simp -implicitDefEqProofs only [go_sem, seval, f1, hq]
   refine X_sr (lx_ok γ) ?_
   simp -implicitDefEqProofs only [go_sem, seval, f1, hq]
   obtain rfl := sI h
   refine X_ret ?_
   simp -implicitDefEqProofs only [go_sem, seval, f1, hq]
   exact Rt.mv0 (BaseR.refl hob) (by simp) (vS)
 ·refine X_reg (lx_ok γ) ?_
  cases f21 : decide (48 < (List.length a0.Kinds : Int))
  ·rw [if_neg (nF f21)] at h
   simp -implicitDefEqProofs only [go_sem, seval, f21, hq]
   refine kJ_in ?_ ⟨((List.length a0.Base : Int) != (List.length a0.Kinds : Int)), h, rfl, rfl⟩
   exact To.mv [(0, 0)] (BaseR.refl hob) (by simp) (by decide) (by simp only [go_sem]; exact ⟨VM.refA (j := 0) (t := 0) rfl, vS⟩) ⟨⟨_, rfl, OM.box _ _ ⟨VM.self (by simpa using Bd.of_rdK hv0_0), VM.self (by simpa using Bd.of_rdK hv0_1), vS, vS, VM.self (by simpa using Bd.of_rdK hv0_4), trivial⟩⟩, trivial⟩
  ·rw [if_pos f21] at h
   simp -implicitDefEqProofs only [go_sem, seval, f21, hq]
   refine kJ_in ?_ ⟨true, h, rfl, rfl⟩
   exact To.mv [(0, 0)] (BaseR.refl hob) (by simp) (by decide) (by simp only [go_sem]; exact ⟨VM.refA (j := 0) (t := 0) rfl, vS⟩) ⟨⟨_, rfl, OM.box _ _ ⟨VM.self (by simpa using Bd.of_rdK hv0_0), VM.self (by simpa using Bd.of_rdK hv0_1), vS, vS, VM.self (by simpa using Bd.of_rdK hv0_4), trivial⟩⟩, trivial⟩
end Go.Pf
end
section
set_option maxRecDepth 100000
namespace Go.Pf
open Go Go.Ab Go.Pp Go.Proofs Go.Proofs.S04
attribute [local go_sem] Lxτ Lxγ gam0 Int.toNat_natCast tau3 tau28 eI eB eS e_Ins e_Block e_Func e_Prog e_code_writer e_code_reader e_Edge
set_option maxHeartbeats 1000000 in
theorem slices_Index_int_ok (γ : GT) (ob : OT) {a0 : List Int} {v0 : V} {a1 : Int} (hv0 : rdK (getO ob) 1 v0 = some (List.map (eI .i64) a0)) {r : Int} (h : slices_Index_int a0 a1 = some r) :
  Valid (Lx γ) 70 [v0, vint .i64 a1] ob (vint .i64 r) ob := by
 refine valid_X (lx_ok γ) (fn := Tryd.f70) (rs := [.tmp 4]) Tryd.func70 (by kernel_rfl) rfl rfl Tryd.ntmps70 rfl (by simp) fun hb hob => ?_
 have hq := rd4 hv0
 rw [slices_Index_int] at h
 refine X_sr (lx_ok γ) ?_
 simp -implicitDefEqProofs only [go_sem, seval, hq]
 refine X_seq ?_
 refine X_sr (lx_ok γ) ?_
 simp -implicitDefEqProofs only [go_sem, seval, hq]
 refine X_jq (J := fun as1 ob1 => slices_Index_int.k1 = some r ∧ [] = as1 ∧ ob = ob1) ?_ ?_
 ·rintro as1 ob1 ⟨h, rfl, rfl⟩
  rw [slices_Index_int.k1] at h
  simp -implicitDefEqProofs only [go_sem, seval, hq]
  refine X_sr (lx_ok γ) ?_
  simp -implicitDefEqProofs only [go_sem, seval, hq]
  obtain rfl := sI h
  refine X_ret ?_
  simp -implicitDefEqProofs only [go_sem, seval, hq]
  exact Rt.mv1 (BaseR.refl hob) (by simp) (vS)
 ·refine X_block ?_
  obtain ⟨lr1, hl1, hk1, hr1⟩ := aft2 h
  refine X_forN hl1 (fun (i1 : Nat) (s : Unit) as1 ob1 => [(0, v0), (1, vint .i64 a1), (7, vint .i64 (List.length a0 : Int)), (8, vint .i64 (i1 : Int))] = as1 ∧ ob = ob1) ⟨_, _, ?_, rfl, rfl⟩ ?_ ?_
  ·exact To.mv1 (BaseR.refl hob) (by simp) (by simp only [go_sem]; exact ⟨VM.self (by simpa using Bd.of_rdK hv0), vS, vS, VM.eqv (by simp) (by simp)⟩)
  ·rintro i1 _ o1 hi1 hw1 h ho1 as1 ob1 ⟨rfl, rfl⟩
   rw [slices_Index_int.b1] at h
   refine X_sr (lx_ok γ) ?_
   simp -implicitDefEqProofs only [go_sem, seval, hi1, hq]
   refine X_seq ?_
   refine X_cond (lx_ok γ) ?_
   simp -implicitDefEqProofs only [go_sem, seval, hi1, hq]
   refine X_skip ?_
   try simp -implicitDefEqProofs only [go_sem]
   refine X_seq ?_
   refine X_block ?_
   refine X_sr (lx_ok γ) ?_
   simp -implicitDefEqProofs only [go_sem, seval, hi1, hq]
   refine X_sr (lx_ok γ) ?_
   obtain ⟨x2, f1, h⟩ := bindE h
   obtain ⟨f2, f3⟩ := ixL_nat f1
   have f4 : (0 : Int) ≤ (i1 : Int) := Int.natCast_nonneg _
   simp -implicitDefEqProofs only [go_sem, seval, hi1, hq, f2, f3, f4]
   cases f5 : (a1 == x2)
   ·rw [if_neg (nF f5)] at h
    refine X_cond (lx_ok γ) ?_
    simp -implicitDefEqProofs only [go_sem, seval, hi1, f5, hq, f2, f3, f4]
    refine X_skip ?_
    try simp -implicitDefEqProofs only [go_sem]
    refine X_reg (lx_ok γ) ?_
    obtain rfl := sI h
    simp -implicitDefEqProofs only [go_sem, seval, hi1, f5, hq]
    refine kR_in rfl ?_ ⟨rfl, rfl⟩
    exact To.mv1 (BaseR.refl hob) (by simp) (by simp only [go_sem]; exact ⟨VM.self (by simpa using Bd.of_rdK hv0), vS, vS, VM.eqv (by rw [hw1]) (by simp)⟩)
   ·rw [if_pos f5] at h
    refine X_cond (lx_ok γ) ?_
    simp -implicitDefEqProofs only [go_sem, seval, hi1, f5, hq, f2, f3, f4]
    refine X_sr (lx_ok γ) ?_
    simp -implicitDefEqProofs only [go_sem, seval, hi1, f5, hq]
    obtain rfl := sI h
    have h := hr1 _ (ho1 (fun _ hs => nomatch hs))
    obtain rfl := sI h
    refine X_ret ?_
    simp -implicitDefEqProofs only [go_sem, seval, hi1, f5, hq]
    exact Rt.mv1 (BaseR.refl hob) (by simp) (vS)
  ·rintro i1 _ hi1 hn1 as1 ob1 ⟨rfl, rfl⟩
   refine X_sr (lx_ok γ) ?_
   simp -implicitDefEqProofs only [go_sem, seval, hi1, hq]
   refine X_seq ?_
   refine X_cond (lx_ok γ) ?_
   simp -implicitDefEqProofs only [go_sem, seval, hi1, hq]
   have h := hk1 _ (.inl hn1)
   refine X_exit ?_
   try simp -implicitDefEqProofs only [go_sem, ↓reduceIte, Nat.reduceEqDiff, reduceCtorEq]
   refine kJ_in ?_ ⟨h, rfl, rfl⟩
   exact To.mv1 (BaseR.refl hob) (by simp) trivial
end Go.Pf
end
section
set_option maxRecDepth 100000
namespace Go.Pf
open Go Go.Ab Go.Pp Go.Proofs Go.Proofs.S04
attribute [local go_sem] Lxτ Lxγ gam0 Int.toNat_natCast tau3 tau28 eI eB eS e_Ins e_Block e_Func e_Prog e_code_writer e_code_reader e_Edge
set_option maxHeartbeats 1000000 in
theorem slices_Contains_int_ok (γ : GT) (ob : OT) {a0 : List Int} {v0 : V} {a1 : Int} (hv0 : rdK (getO ob) 1 v0 = some (List.map (eI .i64) a0)) {r : Bool} (h : slices_Contains_int a0 a1 = some r) :
  Valid (Lx γ) 37 [v0, vint .i64 a1] ob (vbool r) ob := by
 refine valid_X (lx_ok γ) (fn := Tryd.f37) (rs := [.tmp 4]) Tryd.func37 (by kernel_rfl) rfl rfl Tryd.ntmps37 rfl (by simp) fun hb hob => ?_
 have hq := rd4 hv0
 rw [slices_Contains_int] at h
 refine X_sr (lx_ok γ) ?_
 simp -implicitDefEqProofs only [go_sem, seval, hq]
 refine X_sr (lx_ok γ) ?_
 obtain ⟨x1, f1, h⟩ := bindE h
 simp -implicitDefEqProofs only [go_sem, seval, hq]
 refine callV_eq (slices_Index_int_ok γ _ (by first | exact rdK_app hv0 | exact hv0) f1) rfl rfl ?_
 simp -implicitDefEqProofs only [go_sem, seval, hq]
 obtain rfl := sI h
 refine X_ret ?_
 simp -implicitDefEqProofs only [go_sem, seval, hq]
 exact Rt.mv1 (BaseR.refl hob) (by simp) (vS)
end Go.Pf
end
section
set_option maxRecDepth 100000
namespace Go.Pf
open Go Go.Ab Go.Pp Go.Proofs Go.Proofs.S04
attribute [local go_sem] Lxτ Lxγ gam0 Int.toNat_natCast tau3 tau28 tau29 tau35 tau42 tau44 eI eB eS e_Ins e_Block e_Func e_Prog e_code_writer e_code_reader e_Edge
set_option maxHeartbeats 1000000 in
theorem slices_IndexFunc_Block_ok (γ : GT) (ob : OT) {a0 : List Block} {v0 : V} {a1 : Block → Option (Bool)} {w1 : V} (hv0 : rdK (getO ob) 1 v0 = some (List.map e_Block a0)) (hf1 : ∀ (ob1 : OT), ob <+: ob1 → ∀ (y0 : Block) (r : Bool), a1 y0 = some r → FnV (Lx γ) w1 [V.agg [V.tr (.sl 7 false (List.map e_Ins y0.Code))]] ob1 (vbool r) ob1) {r : Int} (h : slices_IndexFunc_Block a0 a1 = some r) :
  Valid (Lx γ) 71 [v0, w1] ob (vint .i64 r) ob := by
 refine valid_X (lx_ok γ) (fn := Tryd.f71) (rs := [.tmp 4]) Tryd.func71 (by kernel_rfl) rfl rfl Tryd.ntmps71 rfl (by simp) fun hb hob => ?_
 have hq := rd4 hv0
 rw [slices_IndexFunc_Block] at h
 refine X_sr (lx_ok γ) ?_
 simp -implicitDefEqProofs only [go_sem, seval, hq]
 refine X_seq ?_
 refine X_sr (lx_ok γ) ?_
 simp -implicitDefEqProofs only [go_sem, seval, hq]
 refine X_jq (J := fun as1 ob1 => slices_IndexFunc_Block.k1 = some r ∧ [] = as1 ∧ ob = ob1) ?_ ?_
 ·rintro as1 ob1 ⟨h, rfl, rfl⟩
  rw [slices_IndexFunc_Block.k1] at h
  simp -implicitDefEqProofs only [go_sem, seval, hq]
  refine X_sr (lx_ok γ) ?_
  simp -implicitDefEqProofs only [go_sem, seval, hq]
  obtain rfl := sI h
  refine X_ret ?_
  simp -implicitDefEqProofs only [go_sem, seval, hq]
  exact Rt.mv1 (BaseR.refl hob) (by simp) (vS)
 ·refine X_block ?_
  obtain ⟨lr1, hl1, hk1, hr1⟩ := aft2 h
  refine X_forN hl1 (fun (i1 : Nat) (s : Unit) as1 ob1 => [(0, v0), (1, w1), (7, vint .i64 (List.length a0 : Int)), (8, vint .i64 (i1 : Int))] = as1 ∧ ob = ob1) ⟨_, _, ?_, rfl, rfl⟩ ?_ ?_
  ·exact To.mv1 (BaseR.refl hob) (by simp) (by simp only [go_sem]; exact ⟨VM.self (by simpa using Bd.of_rdK hv0), VM.self (by simpa using hb w1 (by simp)), vS, VM.eqv (by simp) (by simp)⟩)
  ·rintro i1 _ o1 hi1 hw1 h ho1 as1 ob1 ⟨rfl, rfl⟩
   rw [slices_IndexFunc_Block.b1] at h
   refine X_sr (lx_ok γ) ?_
   simp -implicitDefEqProofs only [go_sem, seval, hi1, hq]
   refine X_seq ?_
   refine X_cond (lx_ok γ) ?_
   simp -implicitDefEqProofs only [go_sem, seval, hi1, hq]
   refine X_skip ?_
   try simp -implicitDefEqProofs only [go_sem]
   refine X_seq ?_
   refine X_block ?_
   refine X_sr (lx_ok γ) ?_
   simp -implicitDefEqProofs only [go_sem, seval, hi1, hq]
   refine X_sr (lx_ok γ) ?_
   obtain ⟨x2, f1, h⟩ := bindE h
   obtain ⟨f2, f3⟩ := ixL_nat f1
   have f4 : (0 : Int) ≤ (i1 : Int) := Int.natCast_nonneg _
   obtain ⟨x3, f5, h⟩ := bindE h
   simp -implicitDefEqProofs only [go_sem, seval, hi1, hq, f2, f3, f4]
   refine callV_fn (hf1 _ List.prefix_rfl _ _ f5) rfl rfl ?_
   simp -implicitDefEqProofs only [go_sem, seval, hi1, hq, f2, f3, f4]
   cases f6 : x3
   ·rw [if_neg (nF f6)] at h
    refine X_cond (lx_ok γ) ?_
    simp -implicitDefEqProofs only [go_sem, seval, hi1, f6, hq, f2, f3, f4]
    refine X_skip ?_
    try simp -implicitDefEqProofs only [go_sem]
    refine X_reg (lx_ok γ) ?_
    obtain rfl := sI h
    simp -implicitDefEqProofs only [go_sem, seval, hi1, f6, hq]
    refine kR_in rfl ?_ ⟨rfl, rfl⟩
    exact To.mv1 (BaseR.refl hob) (by simp) (by simp only [go_sem]; exact ⟨VM.self (by simpa using Bd.of_rdK hv0), VM.self (by simpa using hb w1 (by simp)), vS, VM.eqv (by rw [hw1]) (by simp)⟩)
   ·rw [if_pos f6] at h
    refine X_cond (lx_ok γ) ?_
    simp -implicitDefEqProofs only [go_sem, seval, hi1, f6, hq, f2, f3, f4]
    refine X_sr (lx_ok γ) ?_
    simp -implicitDefEqProofs only [go_sem, seval, hi1, f6, hq]
    obtain rfl := sI h
    have h := hr1 _ (ho1 (fun _ hs => nomatch hs))
    obtain rfl := sI h
    refine X_ret ?_
    simp -implicitDefEqProofs only [go_sem, seval, hi1, f6, hq]
    exact Rt.mv1 (BaseR.refl hob) (by simp) (vS)
  ·rintro i1 _ hi1 hn1 as1 ob1 ⟨rfl, rfl⟩
   refine X_sr (lx_ok γ) ?_
   simp -implicitDefEqProofs only [go_sem, seval, hi1, hq]
   refine X_seq ?_
   refine X_cond (lx_ok γ) ?_
   simp -implicitDefEqProofs only [go_sem, seval, hi1, hq]
   have h := hk1 _ (.inl hn1)
   refine X_exit ?_
   try simp -implicitDefEqProofs only [go_sem, ↓reduceIte, Nat.reduceEqDiff, reduceCtorEq]
   refine kJ_in ?_ ⟨h, rfl, rfl⟩
   exact To.mv1 (BaseR.refl hob) (by simp) trivial
end Go.Pf
end
section
set_option maxRecDepth 100000
namespace Go.Pf
open Go Go.Ab Go.Pp Go.Proofs Go.Proofs.S04
attribute [local go_sem] Lxτ Lxγ gam0 Int.toNat_natCast tau3 tau28 tau29 tau35 tau42 tau44 tau59 eI eB eS e_Ins e_Block e_Func e_Prog e_code_writer e_code_reader e_Edge
set_option maxHeartbeats 1000000 in
theorem slices_ContainsFunc_Block_ok (γ : GT) (ob : OT) {a0 : List Block} {v0 : V} {a1 : Block → Option (Bool)} {w1 : V} (hv0 : rdK (getO ob) 1 v0 = some (List.map e_Block a0)) (hf1 : ∀ (ob1 : OT), ob <+: ob1 → ∀ (y0 : Block) (r : Bool), a1 y0 = some r → FnV (Lx γ) w1 [V.agg [V.tr (.sl 7 false (List.map e_Ins y0.Code))]] ob1 (vbool r) ob1) {r : Bool} (h : slices_ContainsFunc_Block a0 a1 = some r) :
  Valid (Lx γ) 38 [v0, w1] ob (vbool r) ob := by
 refine valid_X (lx_ok γ) (fn := Tryd.f38) (rs := [.tmp 4]) Tryd.func38 (by kernel_rfl) rfl rfl Tryd.ntmps38 rfl (by simp) fun hb hob => ?_
 have hq := rd4 hv0
 rw [slices_ContainsFunc_Block] at h
 refine X_sr (lx_ok γ) ?_
 simp -implicitDefEqProofs only [go_sem, seval, hq]
 refine X_sr (lx_ok γ) ?_
 obtain ⟨x1, f1, h⟩ := bindE h
 simp -implicitDefEqProofs only [go_sem, seval, hq]
 refine callV_eq (slices_IndexFunc_Block_ok γ _ (by first | exact rdK_app hv0 | exact hv0) hf1 f1) rfl rfl ?_
 simp -implicitDefEqProofs only [go_sem, seval, hq]
 obtain rfl := sI h
 refine X_ret ?_
 simp -implicitDefEqProofs only [go_sem, seval, hq]
 exact Rt.mv1 (BaseR.refl hob) (by simp) (vS)
end Go.Pf
end
section
set_option maxRecDepth 100000
namespace Go.Pf
open Go Go.Ab Go.Pp Go.Proofs Go.Proofs.S04
attribute [local go_sem] Lxτ Lxγ gam0 Int.toNat_natCast tau3 tau28 tau35 tau42 eI eB eS e_Ins e_Block e_Func e_Prog e_code_writer e_code_reader e_Edge
set_option maxHeartbeats 1000000 in
theorem slices_IndexFunc_Ins_ok (γ : GT) (ob : OT) {a0 : List Ins} {v0 : V} {a1 : Ins → Option (Bool)} {w1 : V} (hv0 : rdK (getO ob) 7 v0 = some (List.map e_Ins a0)) (hf1 : ∀ (ob1 : OT), ob <+: ob1 → ∀ (y0 : Ins) (r : Bool), a1 y0 = some r → FnV (Lx γ) w1 [V.agg [vint .i64 y0.Op, vint .i64 y0.D, vint .i64 y0.A, vint .i64 y0.B, vint .i64 y0.N, vint .i64 y0.M, V.tr (.sl 1 false (List.map (eI .i64) y0.Args))]] ob1 (vbool r) ob1) {r : Int} (h : slices_IndexFunc_Ins a0 a1 = some r) :
  Valid (Lx γ) 72 [v0, w1] ob (vint .i64 r) ob := by
 refine valid_X (lx_ok γ) (fn := Tryd.f72) (rs := [.tmp 4]) Tryd.func72 (by kernel_rfl) rfl rfl Tryd.ntmps72 rfl (by simp) fun hb hob => ?_
 have hq := rd4 hv0
 rw [slices_IndexFunc_Ins] at h
 refine X_sr (lx_ok γ) ?_
 simp -implicitDefEqProofs only [go_sem, seval, hq]
 refine X_seq ?_
 refine X_sr (lx_ok γ) ?_
 simp -implicitDefEqProofs only [go_sem, seval, hq]
 refine X_jq (J := fun as1 ob1 => slices_IndexFunc_Ins.k1 = some r ∧ [] = as1 ∧ ob = ob1) ?_ ?_
 ·rintro as1 ob1 ⟨h, rfl, rfl⟩
  rw [slices_IndexFunc_Ins.k1] at h
  simp -implicitDefEqProofs only [go_sem, seval, hq]
  refine X_sr (lx_ok γ) ?_
  simp -implicitDefEqProofs only [go_sem, seval, hq]
  obtain rfl := sI h
  refine X_ret ?_
  simp -implicitDefEqProofs only [go_sem, seval, hq]
  exact Rt.mv1 (BaseR.refl hob) (by simp) (vS)
 ·refine X_block ?_
  obtain ⟨lr1, hl1, hk1, hr1⟩ := aft2 h
  refine X_forN hl1 (fun (i1 : Nat) (s : Unit) as1 ob1 => [(0, v0), (1, w1), (7, vint .i64 (List.length a0 : Int)), (8, vint .i64 (i1 : Int))] = as1 ∧ ob = ob1) ⟨_, _, ?_, rfl, rfl⟩ ?_ ?_
  ·exact To.mv1 (BaseR.refl hob) (by simp) (by simp only [go_sem]; exact ⟨VM.self (by simpa using Bd.of_rdK hv0), VM.self (by simpa using hb w1 (by simp)), vS, VM.eqv (by simp) (by simp)⟩)
  ·rintro i1 _ o1 hi1 hw1 h ho1 as1 ob1 ⟨rfl, rfl⟩
   rw [slices_IndexFunc_Ins.b1] at h
   refine X_sr (lx_ok γ) ?_
   simp -implicitDefEqProofs only [go_sem, seval, hi1, hq]
   refine X_seq ?_
   refine X_cond (lx_ok γ) ?_
   simp -implicitDefEqProofs only [go_sem, seval, hi1, hq]
   refine X_skip ?_
   try simp -implicitDefEqProofs only [go_sem]
   refine X_seq ?_
   refine X_block ?_
   refine X_sr (lx_ok γ) ?_
   simp -implicitDefEqProofs only [go_sem, seval, hi1, hq]
   refine X_sr (lx_ok γ) ?_
   obtain ⟨x2, f1, h⟩ := bindE h
   obtain ⟨f2, f3⟩ := ixL_nat f1
   have f4 : (0 : Int) ≤ (i1 : Int) := Int.natCast_nonneg _
   obtain ⟨x3, f5, h⟩ := bindE h
   simp -implicitDefEqProofs only [go_sem, seval, hi1, hq, f2, f3, f4]
   refine callV_fn (hf1 _ List.prefix_rfl _ _ f5) rfl rfl ?_
   simp -implicitDefEqProofs only [go_sem, seval, hi1, hq, f2, f3, f4]
   cases f6 : x3
   ·rw [if_neg (nF f6)] at h
    refine X_cond (lx_ok γ) ?_
    simp -implicitDefEqProofs only [go_sem, seval, hi1, f6, hq, f2, f3, f4]
    refine X_skip ?_
    try simp -implicitDefEqProofs only [go_sem]
    refine X_reg (lx_ok γ) ?_
    obtain rfl := sI h
    simp -implicitDefEqProofs only [go_sem, seval, hi1, f6, hq]
    refine kR_in rfl ?_ ⟨rfl, rfl⟩
    exact To.mv1 (BaseR.refl hob) (by simp) (by simp only [go_sem]; exact ⟨VM.self (by simpa using Bd.of_rdK hv0), VM.self (by simpa using hb w1 (by simp)), vS, VM.eqv (by rw [hw1]) (by simp)⟩)
   ·rw [if_pos f6] at h
    refine X_cond (lx_ok γ) ?_
    simp -implicitDefEqProofs only [go_sem, seval, hi1, f6, hq, f2, f3, f4]
    refine X_sr (lx_ok γ) ?_
    simp -implicitDefEqProofs only [go_sem, seval, hi1, f6, hq]
    obtain rfl := sI h
    have h := hr1 _ (ho1 (fun _ hs => nomatch hs))
    obtain rfl := sI h
    refine X_ret ?_
    simp -implicitDefEqProofs only [go_sem, seval, hi1, f6, hq]
    exact Rt.mv1 (BaseR.refl hob) (by simp) (vS)
  ·rintro i1 _ hi1 hn1 as1 ob1 ⟨rfl, rfl⟩
   refine X_sr (lx_ok γ) ?_
   simp -implicitDefEqProofs only [go_sem, seval, hi1, hq]
   refine X_seq ?_
   refine X_cond (lx_ok γ) ?_
   simp -implicitDefEqProofs only [go_sem, seval, hi1, hq]
   have h := hk1 _ (.inl hn1)
   refine X_exit ?_
   try simp -implicitDefEqProofs only [go_sem, ↓reduceIte, Nat.reduceEqDiff, reduceCtorEq]
   refine kJ_in ?_ ⟨h, rfl, rfl⟩
   exact To.mv1 (BaseR.refl hob) (by simp) trivial
end Go.Pf
end
section
set_option maxRecDepth 100000
namespace Go.Pf
open Go Go.Ab Go.Pp Go.Proofs Go.Proofs.S04
attribute [local go_sem] Lxτ Lxγ gam0 Int.toNat_natCast tau3 eI eB eS e_Ins e_Block e_Func e_Prog e_code_writer e_code_reader e_Edge
set_option maxHeartbeats 1000000 in
theorem shape_Last_ok (γ : GT) (ob : OT) {a0 : Int} {r : Bool} (h : shape_Last a0 = some r) :
  Valid (Lx γ) 19 [vint .i64 a0] ob (vbool r) ob := by
 refine valid_X (lx_ok γ) (fn := Tryd.f19) (rs := [.tmp 2]) Tryd.func19 (by kernel_rfl) rfl rfl Tryd.ntmps19 rfl (by simp) fun hb hob => ?_
 rw [shape_Last] at h
 refine X_sr (lx_ok γ) ?_
 simp -implicitDefEqProofs only [go_sem, seval]
 refine X_sr (lx_ok γ) ?_
 obtain ⟨x1, f1, h⟩ := bindE h
 simp -implicitDefEqProofs only [go_sem, seval]
 refine callV_eq (shape_within_ok γ _  f1) rfl rfl ?_
 simp -implicitDefEqProofs only [go_sem, seval]
 obtain rfl := sI h
 refine X_ret ?_
 simp -implicitDefEqProofs only [go_sem, seval]
 exact Rt.mv1 (BaseR.refl hob) (by simp) (vS)
end Go.Pf
end
section
set_option maxRecDepth 100000
namespace Go.Pf
open Go Go.Ab Go.Pp Go.Proofs Go.Proofs.S04
attribute [local go_sem] Lxτ Lxγ gam0 Int.toNat_natCast tau3 tau28 tau35 eI eB eS e_Ins e_Block e_Func e_Prog e_code_writer e_code_reader e_Edge
set_option maxHeartbeats 1000000 in
theorem shape_block_1_ok (γ : GT) (ob : OT) {a0 : Ins} {v0_6 : V} (hv0_6 : rdK (getO ob) 1 v0_6 = some (List.map (eI .i64) a0.Args)) {r : Bool} (h : shape_block_1 a0 = some r) :
  Valid (Lx γ) 73 [V.agg [vint .i64 a0.Op, vint .i64 a0.D, vint .i64 a0.A, vint .i64 a0.B, vint .i64 a0.N, vint .i64 a0.M, v0_6]] ob (vbool r) ob := by
 refine valid_X (lx_ok γ) (fn := Tryd.f73) (rs := [.tmp 2]) Tryd.func73 (by kernel_rfl) rfl rfl Tryd.ntmps73 rfl (by simp) fun hb hob => ?_
 have hq := rd4 hv0_6
 rw [shape_block_1] at h
 refine X_sr (lx_ok γ) ?_
 simp -implicitDefEqProofs only [go_sem, seval, hq]
 refine X_sr (lx_ok γ) ?_
 obtain ⟨x1, f1, h⟩ := bindE h
 simp -implicitDefEqProofs only [go_sem, seval, hq]
 refine callV_eq (shape_Last_ok γ _  f1) rfl rfl ?_
 simp -implicitDefEqProofs only [go_sem, seval, hq]
 obtain rfl := sI h
 refine X_ret ?_
 simp -implicitDefEqProofs only [go_sem, seval, hq]
 exact Rt.mv0 (BaseR.refl hob) (by simp) (vS)
end Go.Pf
end
section
set_option maxRecDepth 100000
namespace Go.Pf
open Go Go.Ab Go.Pp Go.Proofs Go.Proofs.S04
attribute [local go_sem] Lxτ Lxγ gam0 Int.toNat_natCast tau3 tau28 tau35 tau42 tau44 tau61 eI eB eS e_Ins e_Block e_Func e_Prog e_code_writer e_code_reader e_Edge
set_option maxHeartbeats 1000000 in
theorem shape_block_ok (γ : GT) (ob : OT) {a0 : Block} {v0_0 : V} (hv0_0 : rdK (getO ob) 7 v0_0 = some (List.map e_Ins a0.Code)) {r : Bool} (h : shape_block a0 = some r) :
  Valid (Lx γ) 40 [V.agg [v0_0]] ob (vbool r) ob := by
 refine valid_X (lx_ok γ) (fn := Tryd.f40) (rs := [.tmp 2]) Tryd.func40 (by kernel_rfl) rfl rfl Tryd.ntmps40 rfl (by simp) fun hb hob => ?_
 have hq := rd4 hv0_0
 rw [shape_block] at h
 refine X_sr (lx_ok γ) ?_
 simp -implicitDefEqProofs only [go_sem, seval, hq]
 refine X_sr (lx_ok γ) ?_
 simp -implicitDefEqProofs only [go_sem, seval, hq]
 refine X_sr (lx_ok γ) ?_
 obtain ⟨x1, f1, h⟩ := bindE h
 simp -implicitDefEqProofs only [go_sem, seval, hq]
 refine callV_eq (shape_within_ok γ _  f1) rfl rfl ?_
 cases f2 : x1
 ·rw [if_neg (nF f2)] at h
  simp -implicitDefEqProofs only [go_sem, seval, f2, hq]
  obtain rfl := sI h
  refine X_ret ?_
  simp -implicitDefEqProofs only [go_sem, seval, f2, hq]
  exact Rt.mv0 (BaseR.refl hob) (by simp) (vS)
 ·rw [if_pos f2] at h
  obtain ⟨x2, f3, h⟩ := bindE h
  simp -implicitDefEqProofs only [go_sem, seval, f2, hq]
  refine callV_eq (slices_IndexFunc_Ins_ok γ _ (by first | exact rdK_app hv0_0 | exact hv0_0) (fun ob1 hp y0 r hx => by obtain ⟨l, rfl⟩ := hp; exact shape_block_1_ok γ _ (by simp -implicitDefEqProofs only [go_sem, seval, f2, hq]; try rfl) hx) f3) rfl rfl ?_
  simp -implicitDefEqProofs only [go_sem, seval, f2, hq]
  obtain rfl := sI h
  refine X_ret ?_
  simp -implicitDefEqProofs only [go_sem, seval, f2, hq]
  exact Rt.mv0 (BaseR.refl hob) (by simp) (vS)
end Go.Pf
end
section
set_option maxRecDepth 100000
namespace Go.Pf
open Go Go.Ab Go.Pp Go.Proofs Go.Proofs.S04
attribute [local go_sem] Lxτ Lxγ gam0 Int.toNat_natCast tau3 tau4 tau28 tau35 tau42 tau44 eI eB eS e_Ins e_Block e_Func e_Prog e_code_writer e_code_reader e_Edge
set_option maxHeartbeats 1000000 in
theorem shape_Func_1_ok (γ : GT) (ob : OT) {a0 : Block} {v0_0 : V} (hv0_0 : rdK (getO ob) 7 v0_0 = some (List.map e_Ins a0.Code)) {r : Bool} (h : shape_Func_1 a0 = some r) :
  Valid (Lx γ) 39 [V.agg [v0_0]] ob (vbool r) ob := by
 refine valid_X (lx_ok γ) (fn := Tryd.f39) (rs := [.tmp 2]) Tryd.func39 (by kernel_rfl) rfl rfl Tryd.ntmps39 rfl (by simp) fun hb hob => ?_
 have hq := rd4 hv0_0
 rw [shape_Func_1] at h
 refine X_sr (lx_ok γ) ?_
 simp -implicitDefEqProofs only [go_sem, seval, hq]
 refine X_sr (lx_ok γ) ?_
 obtain ⟨x1, f1, h⟩ := bindE h
 simp -implicitDefEqProofs only [go_sem, seval, hq]
 refine callV_eq (shape_block_ok γ _ (by first | exact rdK_app hv0_0 | exact hv0_0) f1) rfl rfl ?_
 simp -implicitDefEqProofs only [go_sem, seval, hq]
 obtain rfl := sI h
 refine X_ret ?_
 simp -implicitDefEqProofs only [go_sem, seval, hq]
 exact Rt.mv0 (BaseR.refl hob) (by simp) (vS)
end Go.Pf
end
section
set_option maxRecDepth 100000
namespace Go.Pf
open Go Go.Ab Go.Pp Go.Proofs Go.Proofs.S04
attribute [local go_sem] Lxτ Lxγ gam0 Int.toNat_natCast tau3 tau4 tau28 tau29 tau31 tau35 tau42 tau44 tau59 eI eB eS e_Ins e_Block e_Func e_Prog e_code_writer e_code_reader e_Edge
set_option maxHeartbeats 1000000 in
theorem shape_Func_ok (γ : GT) (ob : OT) {a0 : Func} {r : Bool} (h : shape_Func a0 = some r) :
  Valid (Lx γ) 11 [V.agg [V.tr (.sl 1 false (List.map (eI .i64) a0.Kinds)), V.tr (.sl 1 false (List.map (eI .i64) a0.Base)), vint .i64 a0.Params, vint .i64 a0.Result, V.tr (.sl 1 false (List.map e_Block a0.Blocks))]] ob (vbool r) ob := by
 refine valid_X (lx_ok γ) (fn := Tryd.f11) (rs := [.tmp 2]) Tryd.func11 (by kernel_rfl) rfl rfl Tryd.ntmps11 rfl (by simp) fun hb hob => ?_
 rw [shape_Func] at h
 refine X_sr (lx_ok γ) ?_
 simp -implicitDefEqProofs only [go_sem, seval]
 refine X_seq ?_
 refine X_block ?_
 refine X_seq ?_
 refine X_jq (J := fun as1 ob1 => ∃ (x2 : Bool), shape_Func.j1 a0 x2 = some r ∧ [(1, V.ref ob.length 0), (3, vbool x2)] = as1 ∧ ob ++ [some (O.box [V.tr (.sl 1 false (List.map (eI .i64) a0.Kinds)), V.tr (.sl 1 false (List.map (eI .i64) a0.Base)), vint .i64 a0.Params, vint .i64 a0.Result, V.tr (.sl 1 false (List.map e_Block a0.Blocks))])] = ob1) ?_ ?_
 ·rintro as1 ob1 ⟨x2, h, rfl, rfl⟩
  rw [shape_Func.j1] at h
  simp -implicitDefEqProofs only [go_sem, seval]
  cases f1 : x2
  ·rw [if_neg (nF f1)] at h
   refine X_cond (lx_ok γ) ?_
   simp -implicitDefEqProofs only [go_sem, seval, f1]
   refine X_seq ?_
   refine X_jq (J := fun as1 ob1 => ∃ (x4 : Bool), shape_Func.j2 a0 x4 = some r ∧ [(1, V.ref ob.length 0), (17, vbool x4)] = as1 ∧ ob ++ [some (O.box [V.tr (.sl 1 false (List.map (eI .i64) a0.Kinds)), V.tr (.sl 1 false (List.map (eI .i64) a0.Base)), vint .i64 a0.Params, vint .i64 a0.Result, V.tr (.sl 1 false (List.map e_Block a0.Blocks))])] = ob1) ?_ ?_
   ·rintro as1 ob1 ⟨x4, h, rfl, rfl⟩
    rw [shape_Func.j2] at h
    simp -implicitDefEqProofs only [go_sem, seval, f1]
    cases f2 : x4
    ·rw [if_neg (nF f2)] at h
     refine X_cond (lx_ok γ) ?_
     simp -implicitDefEqProofs only [go_sem, seval, f1, f2]
     refine X_skip ?_
     try simp -implicitDefEqProofs only [go_sem]
     refine X_sr (lx_ok γ) ?_
     obtain ⟨x5, f3, h⟩ := bindE h
     simp -implicitDefEqProofs only [go_sem, seval, f1, f2]
     refine callV_eq (shape_within_ok γ _  f3) rfl rfl ?_
     cases f4 : x5
     ·rw [if_neg (nF f4)] at h
      simp -implicitDefEqProofs only [go_sem, seval, f1, f2, f4]
      obtain rfl := sI h
      refine X_ret ?_
      simp -implicitDefEqProofs only [go_sem, seval, f1, f2, f4]
      exact Rt.mv0 (BaseR.refl hob) (by simp) (vS)
     ·rw [if_pos f4] at h
      obtain ⟨x6, f5, h⟩ := bindE h
      simp -implicitDefEqProofs only [go_sem, seval, f1, f2, f4]
      refine callV_eq (slices_ContainsFunc_Block_ok γ _ (by simp -implicitDefEqProofs only [go_sem, seval, f1, f2, f4]; try rfl) (fun ob1 hp y0 r hx => by obtain ⟨l, rfl⟩ := hp; exact shape_Func_1_ok γ _ (by simp -implicitDefEqProofs only [go_sem, seval, f1, f2, f4]; try rfl) hx) f5) rfl rfl ?_
      simp -implicitDefEqProofs only [go_sem, seval, f1, f2, f4]
      obtain rfl := sI h
      refine X_ret ?_
      simp -implicitDefEqProofs only [go_sem, seval, f1, f2, f4]
      exact Rt.mv0 (BaseR.refl hob) (by simp) (vS)
    ·rw [if_pos f2] at h
     refine X_cond (lx_ok γ) ?_
     simp -implicitDefEqProofs only [go_sem, seval, f1, f2]
     refine X_sr (lx_ok γ) ?_
     simp -implicitDefEqProofs only [go_sem, seval, f1, f2]
     obtain rfl := sI h
     refine X_ret ?_
     simp -implicitDefEqProofs only [go_sem, seval, f1, f2]
     exact Rt.mv0 (BaseR.refl hob) (by simp) (vS)
   ·refine X_reg (lx_ok γ) ?_
    obtain ⟨x7, f6, h⟩ := bindE h
    obtain ⟨f7, f8, f9⟩ := headL_some f6
    try simp only [Int.toNat_natCast, Int.reduceToNat] at f8 f9
    obtain ⟨x8, f10, h⟩ := bindE h
    simp -implicitDefEqProofs only [go_sem, seval, f1, f7, f8, f9]
    refine callV_eq (slices_Contains_int_ok γ _ (by simp -implicitDefEqProofs only [go_sem, seval, f1, f7, f8, f9]; try rfl) f10) rfl rfl ?_
    cases f11 : x8
    ·rw [if_neg (nF f11)] at h
     obtain ⟨x9, f12, h⟩ := bindE h
     simp -implicitDefEqProofs only [go_sem, seval, f1, f11, f7, f8, f9]
     refine callV_eq (shape_within_ok γ _  f12) rfl rfl ?_
     simp -implicitDefEqProofs only [go_sem, seval, f1, f11, f7, f8, f9]
     refine kJ_in ?_ ⟨(!x9), h, rfl, rfl⟩
     exact To.mv [(0, 0)] (BaseR.refl hob) (by simp) (by decide) (by simp only [go_sem]; exact ⟨VM.refA (j := 0) (t := 0) rfl, vS⟩) ⟨⟨_, rfl, OM.box _ _ ⟨vS, vS, vS, vS, vS, trivial⟩⟩, trivial⟩
    ·rw [if_pos f11] at h
     simp -implicitDefEqProofs only [go_sem, seval, f1, f11, f7, f8, f9]
     refine kJ_in ?_ ⟨true, h, rfl, rfl⟩
     exact To.mv [(0, 0)] (BaseR.refl hob) (by simp) (by decide) (by simp only [go_sem]; exact ⟨VM.refA (j := 0) (t := 0) rfl, vS⟩) ⟨⟨_, rfl, OM.box _ _ ⟨vS, vS, vS, vS, vS, trivial⟩⟩, trivial⟩
  ·rw [if_pos f1] at h
   refine X_cond (lx_ok γ) ?_
   simp -implicitDefEqProofs only [go_sem, seval, f1]
   refine X_sr (lx_ok γ) ?_
   simp -implicitDefEqProofs only [go_sem, seval, f1]
   obtain rfl := sI h
   refine X_ret ?_
   simp -implicitDefEqProofs only [go_sem, seval, f1]
   exact Rt.mv0 (BaseR.refl hob) (by simp) (vS)
 ·refine X_reg (lx_ok γ) ?_
  obtain ⟨x10, f13, h⟩ := bindE h
  simp -implicitDefEqProofs only [go_sem, seval]
  refine callV_eq (shape_kinds_ok γ _ (by simp -implicitDefEqProofs only [go_sem, seval]; try rfl) (by simp -implicitDefEqProofs only [go_sem, seval]; try rfl) (by simp -implicitDefEqProofs only [go_sem, seval]; try rfl) f13) rfl rfl ?_
  cases f14 : x10
  ·rw [if_neg (nF f14)] at h
   simp -implicitDefEqProofs only [go_sem, seval, f14]
   refine kJ_in ?_ ⟨true, h, rfl, rfl⟩
   exact To.mv [(0, 0)] (BaseR.refl hob) (by simp) (by decide) (by simp only [go_sem]; exact ⟨VM.refA (j := 0) (t := 0) rfl, vS⟩) ⟨⟨_, rfl, OM.box _ _ ⟨vS, vS, vS, vS, vS, trivial⟩⟩, trivial⟩
  ·rw [if_pos f14] at h
   obtain ⟨x11, f15, h⟩ := bindE h
   simp -implicitDefEqProofs only [go_sem, seval, f14]
   refine callV_eq (shape_within_ok γ _  f15) rfl rfl ?_
   simp -implicitDefEqProofs only [go_sem, seval, f14]
   refine kJ_in ?_ ⟨(!x11), h, rfl, rfl⟩
   exact To.mv [(0, 0)] (BaseR.refl hob) (by simp) (by decide) (by simp only [go_sem]; exact ⟨VM.refA (j := 0) (t := 0) rfl, vS⟩) ⟨⟨_, rfl, OM.box _ _ ⟨vS, vS, vS, vS, vS, trivial⟩⟩, trivial⟩
end Go.Pf
end
section
set_option maxRecDepth 100000
namespace Go.Pf
open Go Go.Ab Go.Pp Go.Proofs Go.Proofs.S04
attribute [local go_sem] Lxτ Lxγ gam0 Int.toNat_natCast tau3 tau28 tau35 tau42 tau61 eI eB eS e_Ins e_Block e_Func e_Prog e_code_writer e_code_reader e_Edge
set_option maxHeartbeats 1000000 in
theorem slices_ContainsFunc_Ins_ok (γ : GT) (ob : OT) {a0 : List Ins} {v0 : V} {a1 : Ins → Option (Bool)} {w1 : V} (hv0 : rdK (getO ob) 7 v0 = some (List.map e_Ins a0)) (hf1 : ∀ (ob1 : OT), ob <+: ob1 → ∀ (y0 : Ins) (r : Bool), a1 y0 = some r → FnV (Lx γ) w1 [V.agg [vint .i64 y0.Op, vint .i64 y0.D, vint .i64 y0.A, vint .i64 y0.B, vint .i64 y0.N, vint .i64 y0.M, V.tr (.sl 1 false (List.map (eI .i64) y0.Args))]] ob1 (vbool r) ob1) {r : Bool} (h : slices_ContainsFunc_Ins a0 a1 = some r) :
  Valid (Lx γ) 42 [v0, w1] ob (vbool r) ob := by
 refine valid_X (lx_ok γ) (fn := Tryd.f42) (rs := [.tmp 4]) Tryd.func42 (by kernel_rfl) rfl rfl Tryd.ntmps42 rfl (by simp) fun hb hob => ?_
 have hq := rd4 hv0
 rw [slices_ContainsFunc_Ins] at h
 refine X_sr (lx_ok γ) ?_
 simp -implicitDefEqProofs only [go_sem, seval, hq]
 refine X_sr (lx_ok γ) ?_
 obtain ⟨x1, f1, h⟩ := bindE h
 simp -implicitDefEqProofs only [go_sem, seval, hq]
 refine callV_eq (slices_IndexFunc_Ins_ok γ _ (by first | exact rdK_app hv0 | exact hv0) hf1 f1) rfl rfl ?_
 simp -implicitDefEqProofs only [go_sem, seval, hq]
 obtain rfl := sI h
 refine X_ret ?_
 simp -implicitDefEqProofs only [go_sem, seval, hq]
 exact Rt.mv1 (BaseR.refl hob) (by simp) (vS)
end Go.Pf
end
section
set_option maxRecDepth 100000
namespace Go.Pf
open Go Go.Ab Go.Pp Go.Proofs Go.Proofs.S04
attribute [local go_sem] Lxτ Lxγ gam0 Int.toNat_natCast tau3 tau9 tau90 eI eB eS e_Ins e_Block e_Func e_Prog e_code_writer e_code_reader e_Edge
set_option maxHeartbeats 1000000 in
theorem code_Parts_ok (γ : GT) (ob : OT) {a0 : Int} {r : ByteArray} (h : code_Parts a0 = some r) :
  Valid (Lx γ) 46 [vint .i64 a0] ob (vstr r) ob := by
 refine valid_X (lx_ok γ) (fn := Tryd.f46) (rs := [.tmp 2]) Tryd.func46 (by kernel_rfl) rfl rfl Tryd.ntmps46 rfl (by simp) fun hb hob => ?_
 rw [code_Parts] at h
 refine X_sr (lx_ok γ) ?_
 simp -implicitDefEqProofs only [go_sem, seval]
 refine X_seq ?_
 refine X_sr (lx_ok γ) ?_
 cases f1 : decide (a0 < 0)
 ·rw [if_neg (nF f1)] at h
  simp -implicitDefEqProofs only [go_sem, seval, f1]
  cases f2 : decide (24 ≤ a0)
  ·rw [if_neg (nF f2)] at h
   refine X_cond (lx_ok γ) ?_
   simp -implicitDefEqProofs only [go_sem, seval, f1, f2]
   refine X_skip ?_
   try simp -implicitDefEqProofs only [go_sem]
   refine X_sr (lx_ok γ) ?_
   obtain ⟨x1, f3, h⟩ := bindE h
   obtain ⟨f4, f5, f6⟩ := ixL_some f3
   replace f5 : a0 < 24 := f5
   have f7 : Int.toNat a0 + 1 ≤ List.length partsL := by have : List.length partsL = 24 := rfl; omega
   have f8 : List.take 1 (List.drop (Int.toNat a0) partsL) = [x1] := take1_of f6
   simp -implicitDefEqProofs only [go_sem, seval, f1, f2, f4, f5, f7, f8]
   obtain rfl := sI h
   refine X_ret ?_
   simp -implicitDefEqProofs only [go_sem, seval, f1, f2, f4, f5, f7, f8]
   exact Rt.mv1 (BaseR.refl hob) (by simp) (vS)
  ·rw [if_pos f2] at h
   refine X_cond (lx_ok γ) ?_
   simp -implicitDefEqProofs only [go_sem, seval, f1, f2]
   refine X_sr (lx_ok γ) ?_
   simp -implicitDefEqProofs only [go_sem, seval, f1, f2]
   obtain rfl := sI h
   refine X_ret ?_
   simp -implicitDefEqProofs only [go_sem, seval, f1, f2]
   exact Rt.mv1 (BaseR.refl hob) (by simp) (vS)
 ·rw [if_pos f1] at h
  simp -implicitDefEqProofs only [go_sem, seval, f1]
  refine X_condT (lx_ok γ) rfl ?_
  refine X_sr (lx_ok γ) ?_
  simp -implicitDefEqProofs only [go_sem, seval, f1]
  obtain rfl := sI h
  refine X_ret ?_
  simp -implicitDefEqProofs only [go_sem, seval, f1]
  exact Rt.mv1 (BaseR.refl hob) (by simp) (vS)
end Go.Pf
end
section
set_option maxRecDepth 100000
namespace Go.Pf
open Go Go.Ab Go.Pp Go.Proofs Go.Proofs.S04
attribute [local go_sem] Lxτ Lxγ gam0 Int.toNat_natCast  eI eB eS e_Ins e_Block e_Func e_Prog e_code_writer e_code_reader e_Edge
set_option maxHeartbeats 1000000 in
theorem stringslite_IndexByte_calls (s : ByteArray) (c : Int) (w : World) :
  Calls Tryd.prog 91 #[.string s, .int .u8 c] w fun e w' => e = .returned (.int .i64 (Lib.indexByte s.data.toList c.toNat.toUInt8)) ∧ w' = w := by
 go_enter Tryd.func91, Tryd.ntmps91
 go_wp2
 rw [run_callFunc_extern Tryd.func111 (by kernel_rfl) (by kernel_rfl) (by kernel_rfl) (e := Extern.BytealgIndexByte.indexByte) (by kernel_rfl), Lib.run_indexByteString]
 simp only [Result.andThen]
 rw [Oper.upon_value]
 go_wp2
 go_ret
 exact ⟨rfl, rfl⟩
theorem stringslite_IndexByte_ok (γ : GT) (ob : OT) {a0 : ByteArray} {a1 : Int} {r : Int} (h : stringslite_IndexByte a0 a1 = some r) :
  Valid (Lx γ) 91 [vstr a0, vint .u8 a1] ob (vint .i64 r) ob := by
 rw [stringslite_IndexByte] at h
 obtain rfl := sI h
 refine Valid.quiet2 ⟨⟨Tryd.f91, Tryd.func91, by kernel_rfl, rfl⟩⟩ (fun M G => .tr (.lit _ rfl)) (fun w => ?_)
 refine (stringslite_IndexByte_calls a0 a1 w).mono ?_
 rintro e w' ⟨rfl, rfl⟩
 exact ⟨by rw [ixBL_is]; rfl, rfl⟩
end Go.Pf
end
section
set_option maxRecDepth 100000
namespace Go.Pf
open Go Go.Ab Go.Pp Go.Proofs Go.Proofs.S04
attribute [local go_sem] Lxτ Lxγ gam0 Int.toNat_natCast tau5 tau9 eI eB eS e_Ins e_Block e_Func e_Prog e_code_writer e_code_reader e_Edge
set_option maxHeartbeats 1000000 in
theorem strings_IndexByte_ok (γ : GT) (ob : OT) {a0 : ByteArray} {a1 : Int} {r : Int} (h : strings_IndexByte a0 a1 = some r) :
  Valid (Lx γ) 78 [vstr a0, vint .u8 a1] ob (vint .i64 r) ob := by
 refine valid_X (lx_ok γ) (fn := Tryd.f78) (rs := [.tmp 4]) Tryd.func78 (by kernel_rfl) rfl rfl Tryd.ntmps78 rfl (by simp) fun hb hob => ?_
 rw [strings_IndexByte] at h
 refine X_sr (lx_ok γ) ?_
 simp -implicitDefEqProofs only [go_sem, seval]
 refine X_sr (lx_ok γ) ?_
 obtain ⟨x1, f1, h⟩ := bindE h
 simp -implicitDefEqProofs only [go_sem, seval]
 refine callV_eq (stringslite_IndexByte_ok γ _  f1) rfl rfl ?_
 simp -implicitDefEqProofs only [go_sem, seval]
 obtain rfl := sI h
 refine X_ret ?_
 simp -implicitDefEqProofs only [go_sem, seval]
 exact Rt.mv1 (BaseR.refl hob) (by simp) (vS)
end Go.Pf
end
section
set_option maxRecDepth 100000
namespace Go.Pf
open Go Go.Ab Go.Pp Go.Proofs Go.Proofs.S04
attribute [local go_sem] Lxτ Lxγ gam0 Int.toNat_natCast tau3 tau5 tau9 eI eB eS e_Ins e_Block e_Func e_Prog e_code_writer e_code_reader e_Edge
set_option maxHeartbeats 1000000 in
theorem code_letters_ok (γ : GT) (ob : OT) {a0 : Int} {a1 : Int} {r : Bool} (h : code_letters a0 a1 = some r) :
  Valid (Lx γ) 74 [vint .i64 a0, vint .u8 a1] ob (vbool r) ob := by
 refine valid_X (lx_ok γ) (fn := Tryd.f74) (rs := [.tmp 4]) Tryd.func74 (by kernel_rfl) rfl rfl Tryd.ntmps74 rfl (by simp) fun hb hob => ?_
 rw [code_letters] at h
 refine X_sr (lx_ok γ) ?_
 simp -implicitDefEqProofs only [go_sem, seval]
 refine X_sr (lx_ok γ) ?_
 obtain ⟨x1, f1, h⟩ := bindE h
 simp -implicitDefEqProofs only [go_sem, seval]
 refine callV_eq (code_Parts_ok γ _  f1) rfl rfl ?_
 obtain ⟨x2, f2, h⟩ := bindE h
 simp -implicitDefEqProofs only [go_sem, seval]
 refine callV_eq (strings_IndexByte_ok γ _  f2) rfl rfl ?_
 simp -implicitDefEqProofs only [go_sem, seval]
 obtain rfl := sI h
 refine X_ret ?_
 simp -implicitDefEqProofs only [go_sem, seval]
 exact Rt.mv1 (BaseR.refl hob) (by simp) (vS)
end Go.Pf
end
section
set_option maxRecDepth 100000
namespace Go.Pf
open Go Go.Ab Go.Pp Go.Proofs Go.Proofs.S04
attribute [local go_sem] Lxτ Lxγ gam0 Int.toNat_natCast tau3 tau5 eI eB eS e_Ins e_Block e_Func e_Prog e_code_writer e_code_reader e_Edge
set_option maxHeartbeats 1000000 in
theorem code_Sets_ok (γ : GT) (ob : OT) {a0 : Int} {r : Bool} (h : code_Sets a0 = some r) :
  Valid (Lx γ) 44 [vint .i64 a0] ob (vbool r) ob := by
 refine valid_X (lx_ok γ) (fn := Tryd.f44) (rs := [.tmp 2]) Tryd.func44 (by kernel_rfl) rfl rfl Tryd.ntmps44 rfl (by simp) fun hb hob => ?_
 rw [code_Sets] at h
 refine X_sr (lx_ok γ) ?_
 simp -implicitDefEqProofs only [go_sem, seval]
 refine X_sr (lx_ok γ) ?_
 obtain ⟨x1, f1, h⟩ := bindE h
 simp -implicitDefEqProofs only [go_sem, seval]
 refine callV_eq (code_letters_ok γ _  f1) rfl rfl ?_
 simp -implicitDefEqProofs only [go_sem, seval]
 obtain rfl := sI h
 refine X_ret ?_
 simp -implicitDefEqProofs only [go_sem, seval]
 exact Rt.mv1 (BaseR.refl hob) (by simp) (vS)
end Go.Pf
end
section
set_option maxRecDepth 100000
namespace Go.Pf
open Go Go.Ab Go.Pp Go.Proofs Go.Proofs.S04
attribute [local go_sem] Lxτ Lxγ gam0 Int.toNat_natCast tau3 tau4 tau28 tau35 eI eB eS e_Ins e_Block e_Func e_Prog e_code_writer e_code_reader e_Edge
set_option maxHeartbeats 1000000 in
theorem shape_Sets_ok (γ : GT) (ob : OT) {a0 : Ins} {v0_6 : V} (hv0_6 : rdK (getO ob) 1 v0_6 = some (List.map (eI .i64) a0.Args)) {r : Int × Bool} (h : shape_Sets a0 = some r) :
  Valid (Lx γ) 15 [V.agg [vint .i64 a0.Op, vint .i64 a0.D, vint .i64 a0.A, vint .i64 a0.B, vint .i64 a0.N, vint .i64 a0.M, v0_6]] ob (V.tup [vint .i64 r.1, vbool r.2]) ob := by
 refine valid_X (lx_ok γ) (fn := Tryd.f15) (rs := [.tmp 2, .tmp 3]) Tryd.func15 (by kernel_rfl) rfl rfl Tryd.ntmps15 rfl (by simp) fun hb hob => ?_
 have hq := rd4 hv0_6
 rw [shape_Sets] at h
 refine X_sr (lx_ok γ) ?_
 simp -implicitDefEqProofs only [go_sem, seval, hq]
 refine X_seq ?_
 refine X_sr (lx_ok γ) ?_
 obtain ⟨x1, f1, h⟩ := bindE h
 simp -implicitDefEqProofs only [go_sem, seval, hq]
 refine callV_eq (code_Sets_ok γ _  f1) rfl rfl ?_
 simp -implicitDefEqProofs only [go_sem, seval, hq]
 cases f2 : x1
 ·rw [if_neg (nF f2)] at h
  refine X_cond (lx_ok γ) ?_
  simp -implicitDefEqProofs only [go_sem, seval, f2, hq]
  refine X_sr (lx_ok γ) ?_
  simp -implicitDefEqProofs only [go_sem, seval, f2, hq]
  obtain rfl := sI h
  refine X_ret ?_
  simp -implicitDefEqProofs only [go_sem, seval, f2, hq]
  exact Rt.mv0 (BaseR.refl hob) (by simp) (VM.tup ⟨vS, vS, trivial⟩)
 ·rw [if_pos f2] at h
  refine X_cond (lx_ok γ) ?_
  simp -implicitDefEqProofs only [go_sem, seval, f2, hq]
  refine X_skip ?_
  try simp -implicitDefEqProofs only [go_sem]
  refine X_sr (lx_ok γ) ?_
  simp -implicitDefEqProofs only [go_sem, seval, f2, hq]
  obtain rfl := sI h
  refine X_ret ?_
  simp -implicitDefEqProofs only [go_sem, seval, f2, hq]
  exact Rt.mv0 (BaseR.refl hob) (by simp) (VM.tup ⟨vS, vS, trivial⟩)
end Go.Pf
end
section
set_option maxRecDepth 100000
namespace Go.Pf
open Go Go.Ab Go.Pp Go.Proofs Go.Proofs.S04
attribute [local go_sem] Lxτ Lxγ gam0 Int.toNat_natCast tau3 tau5 tau9 eI eB eS e_Ins e_Block e_Func e_Prog e_code_writer e_code_reader e_Edge
set_option maxHeartbeats 1000000 in
theorem shape_has_ok (γ : GT) (ob : OT) {a0 : Int} {a1 : Int} {r : Bool} (h : shape_has a0 a1 = some r) :
  Valid (Lx γ) 54 [vint .i64 a0, vint .u8 a1] ob (vbool r) ob := by
 refine valid_X (lx_ok γ) (fn := Tryd.f54) (rs := [.tmp 4]) Tryd.func54 (by kernel_rfl) rfl rfl Tryd.ntmps54 rfl (by simp) fun hb hob => ?_
 rw [shape_has] at h
 refine X_sr (lx_ok γ) ?_
 simp -implicitDefEqProofs only [go_sem, seval]
 refine X_sr (lx_ok γ) ?_
 obtain ⟨x1, f1, h⟩ := bindE h
 simp -implicitDefEqProofs only [go_sem, seval]
 refine callV_eq (code_Parts_ok γ _  f1) rfl rfl ?_
 obtain ⟨x2, f2, h⟩ := bindE h
 simp -implicitDefEqProofs only [go_sem, seval]
 refine callV_eq (strings_IndexByte_ok γ _  f2) rfl rfl ?_
 simp -implicitDefEqProofs only [go_sem, seval]
 obtain rfl := sI h
 refine X_ret ?_
 simp -implicitDefEqProofs only [go_sem, seval]
 exact Rt.mv1 (BaseR.refl hob) (by simp) (vS)
end Go.Pf
end
section
set_option maxRecDepth 100000
namespace Go.Pf
open Go Go.Ab Go.Pp Go.Proofs Go.Proofs.S04
attribute [local go_sem] Lxτ Lxγ gam0 Int.toNat_natCast tau3 tau5 tau28 tau35 eI eB eS e_Ins e_Block e_Func e_Prog e_code_writer e_code_reader e_Edge
set_option maxHeartbeats 1000000 in
theorem shape_Uses_ok (γ : GT) (ob : OT) {a0 : Ins} {v0_6 : V} (hv0_6 : rdK (getO ob) 1 v0_6 = some (List.map (eI .i64) a0.Args)) {r : List Int} (h : shape_Uses a0 = some r) :
  Valid (Lx γ) 22 [V.agg [vint .i64 a0.Op, vint .i64 a0.D, vint .i64 a0.A, vint .i64 a0.B, vint .i64 a0.N, vint .i64 a0.M, v0_6]] ob (V.row ob.length 0 0 (List.length r)) (ob ++ [some (O.row 1 0 (List.map (eI .i64) r))]) := by
 refine valid_X (lx_ok γ) (fn := Tryd.f22) (rs := [.tmp 2]) Tryd.func22 (by kernel_rfl) rfl rfl Tryd.ntmps22 rfl (by simp) fun hb hob => ?_
 have hq := rd4 hv0_6
 rw [shape_Uses] at h
 refine X_sr (lx_ok γ) ?_
 simp -implicitDefEqProofs only [go_sem, seval, hq]
 refine X_sr (lx_ok γ) ?_
 simp -implicitDefEqProofs only [go_sem, seval, hq]
 refine X_seq ?_
 refine X_jq (J := fun as1 ob1 => ∃ (x1 : List Int), shape_Uses.j1 a0 x1 = some r ∧ [(1, V.ref ob.length 0), (3, V.row (ob.length + 1) 0 0 (List.length x1))] = as1 ∧ ob ++ [some (O.box [vint .i64 a0.Op, vint .i64 a0.D, vint .i64 a0.A, vint .i64 a0.B, vint .i64 a0.N, vint .i64 a0.M, v0_6]), some (O.row 1 0 (List.map (eI .i64) x1))] = ob1) ?_ ?_
 ·rintro as1 ob1 ⟨x1, h, rfl, rfl⟩
  rw [shape_Uses.j1] at h
  simp -implicitDefEqProofs only [go_sem, seval, hq]
  refine X_seq ?_
  refine X_jq (J := fun as1 ob1 => ∃ (x2 : List Int), shape_Uses.j2 a0 x2 = some r ∧ [(1, V.ref ob.length 0), (3, V.row (ob.length + 1) 0 0 (List.length x2))] = as1 ∧ ob ++ [some (O.box [vint .i64 a0.Op, vint .i64 a0.D, vint .i64 a0.A, vint .i64 a0.B, vint .i64 a0.N, vint .i64 a0.M, v0_6]), some (O.row 1 0 (List.map (eI .i64) x2))] = ob1) ?_ ?_
  ·rintro as1 ob1 ⟨x2, h, rfl, rfl⟩
   rw [shape_Uses.j2] at h
   simp -implicitDefEqProofs only [go_sem, seval, hq]
   refine X_seq ?_
   refine X_sr (lx_ok γ) ?_
   obtain ⟨x3, f1, h⟩ := bindE h
   simp -implicitDefEqProofs only [go_sem, seval, hq]
   refine callV_eq (shape_has_ok γ _  f1) rfl rfl ?_
   simp -implicitDefEqProofs only [go_sem, seval, hq]
   cases f2 : x3
   ·rw [if_neg (nF f2)] at h
    refine X_cond (lx_ok γ) ?_
    simp -implicitDefEqProofs only [go_sem, seval, f2, hq]
    refine X_skip ?_
    try simp -implicitDefEqProofs only [go_sem]
    refine X_sr (lx_ok γ) ?_
    simp -implicitDefEqProofs only [go_sem, seval, f2, hq]
    obtain rfl := sI h
    refine X_ret ?_
    simp -implicitDefEqProofs only [go_sem, seval, f2, hq]
    exact Rt.mv [(1, 0)] (BaseR.refl hob) (by simp) (by decide) (VM.rowL (j := 1) (t := 0) rfl (by first | rfl | simp | simp_all | omega)) ⟨⟨_, rfl, OM.row' (by first | rfl | simp_all)⟩, trivial⟩
   ·rw [if_pos f2] at h
    refine X_cond (lx_ok γ) ?_
    simp -implicitDefEqProofs only [go_sem, seval, f2, hq]
    refine X_reg (lx_ok γ) ?_
    obtain ⟨x4, f3, h⟩ := bindE h
    have f4 : List.length x4 * 8 ≤ 140737488355328 := by have := (appL_some f3).1; rw [(appL_some f3).2]; simpa using this
    have f5 : List.map (eI .i64) x2 ++ List.map (eI .i64) a0.Args = List.map (eI .i64) x4 := by rw [(appL_some f3).2]; simp [eB, eI, eS]
    have f6 : List.length x2 + List.length a0.Args = List.length x4 := by rw [(appL_some f3).2]; simp
    simp -implicitDefEqProofs only [go_sem, seval, f2, hq, f4, f5, f6]
    refine X_sr (lx_ok γ) ?_
    simp -implicitDefEqProofs only [go_sem, seval, f2, hq]
    obtain rfl := sI h
    refine X_ret ?_
    simp -implicitDefEqProofs only [go_sem, seval, f2, hq]
    exact Rt.mv [(1, 1)] (BaseR.refl hob) (by simp) (by decide) (VM.rowL (j := 1) (t := 0) rfl (by first | rfl | simp | simp_all | omega)) ⟨⟨_, rfl, OM.row' (by first | rfl | simp_all)⟩, trivial⟩
  ·refine X_sr (lx_ok γ) ?_
   obtain ⟨x5, f7, h⟩ := bindE h
   simp -implicitDefEqProofs only [go_sem, seval, hq]
   refine callV_eq (shape_has_ok γ _  f7) rfl rfl ?_
   simp -implicitDefEqProofs only [go_sem, seval, hq]
   cases f8 : x5
   ·rw [if_neg (nF f8)] at h
    refine X_cond (lx_ok γ) ?_
    simp -implicitDefEqProofs only [go_sem, seval, f8, hq]
    refine X_skip ?_
    try simp -implicitDefEqProofs only [go_sem]
    refine kJ_in ?_ ⟨x1, h, rfl, rfl⟩
    exact To.mv [(0, 0), (1, 0)] (BaseR.refl hob) (by simp) (by decide) (by simp only [go_sem]; exact ⟨VM.refA (j := 0) (t := 0) rfl, VM.rowL (j := 1) (t := 1) rfl (by first | rfl | simp | simp_all | omega)⟩) ⟨⟨_, rfl, OM.box _ _ ⟨vS, vS, vS, vS, vS, vS, VM.self (by simpa using Bd.of_rdK hv0_6), trivial⟩⟩, ⟨_, rfl, OM.row' (by first | rfl | simp_all)⟩, trivial⟩
   ·rw [if_pos f8] at h
    refine X_cond (lx_ok γ) ?_
    simp -implicitDefEqProofs only [go_sem, seval, f8, hq]
    refine X_reg (lx_ok γ) ?_
    obtain ⟨x6, f9, h⟩ := bindE h
    have f10 : List.length x6 * 8 ≤ 140737488355328 := by have := (appL_some f9).1; rw [(appL_some f9).2]; simpa using this
    have f11 : List.map (eI .i64) x1 ++ [[.lit (.int .i64 a0.B)]] = List.map (eI .i64) x6 := by rw [(appL_some f9).2]; simp [eB, eI, eS]
    have f12 : List.length x1 + 1 = List.length x6 := by rw [(appL_some f9).2]; simp
    simp -implicitDefEqProofs only [go_sem, seval, f8, hq, f10, f11, f12]
    refine kJ_in ?_ ⟨x6, h, rfl, rfl⟩
    exact To.mv [(0, 0), (1, 1)] (BaseR.refl hob) (by simp) (by decide) (by simp only [go_sem]; exact ⟨VM.refA (j := 0) (t := 0) rfl, VM.rowL (j := 1) (t := 1) rfl (by first | rfl | simp | simp_all | omega)⟩) ⟨⟨_, rfl, OM.box _ _ ⟨vS, vS, vS, vS, vS, vS, VM.self (by simpa using Bd.of_rdK hv0_6), trivial⟩⟩, ⟨_, rfl, OM.row' (by first | rfl | simp_all)⟩, trivial⟩
 ·refine X_sr (lx_ok γ) ?_
  obtain ⟨x7, f13, h⟩ := bindE h
  simp -implicitDefEqProofs only [go_sem, seval, hq]
  refine callV_eq (shape_has_ok γ _  f13) rfl rfl ?_
  simp -implicitDefEqProofs only [go_sem, seval, hq]
  cases f14 : x7
  ·rw [if_neg (nF f14)] at h
   refine X_cond (lx_ok γ) ?_
   simp -implicitDefEqProofs only [go_sem, seval, f14, hq]
   refine X_skip ?_
   try simp -implicitDefEqProofs only [go_sem]
   refine kJ_in ?_ ⟨[], h, rfl, rfl⟩
   exact To.trans (To.gh (as' := [(1, _), (3, V.row (ob.length + 1) 0 0 0)]) (l' := [some (O.box [_, _, _, _, _, _, _])]) 1 ⟨VG.refl _ _ _, VG.nilL, trivial⟩ ⟨Or.inl rfl, trivial⟩) (To.mv [(0, 0), (1, 0)] (BaseR.refl hob) (by simp) (by decide) (by simp only [go_sem]; exact ⟨VM.refA (j := 0) (t := 0) rfl, VM.rowL (j := 1) (t := 1) rfl (by simp)⟩) ⟨⟨_, rfl, OM.box _ _ ⟨vS, vS, vS, vS, vS, vS, VM.self (by simpa using Bd.of_rdK hv0_6), trivial⟩⟩, ⟨_, rfl, OM.row' rfl⟩, trivial⟩)
  ·rw [if_pos f14] at h
   refine X_cond (lx_ok γ) ?_
   simp -implicitDefEqProofs only [go_sem, seval, f14, hq]
   refine X_reg (lx_ok γ) ?_
   simp -implicitDefEqProofs only [go_sem, seval, f14, hq]
   refine kJ_in ?_ ⟨[a0.A], h, rfl, rfl⟩
   exact To.mv [(0, 0), (2, 0)] (BaseR.refl hob) (by simp) (by decide) (by simp only [go_sem]; exact ⟨VM.refA (j := 0) (t := 0) rfl, VM.rowL (j := 2) (t := 1) rfl (by first | rfl | simp | simp_all | omega)⟩) ⟨⟨_, rfl, OM.box _ _ ⟨vS, vS, vS, vS, vS, vS, VM.self (by simpa using Bd.of_rdK hv0_6), trivial⟩⟩, ⟨_, rfl, OM.row' (by first | rfl | simp_all)⟩, trivial⟩
end Go.Pf
end
section
set_option maxRecDepth 100000
namespace Go.Pf
open Go Go.Ab Go.Pp Go.Proofs Go.Proofs.S04
attribute [local go_sem] Lxτ Lxγ gam0 Int.toNat_natCast  eI eB eS e_Ins e_Block e_Func e_Prog e_code_writer e_code_reader e_Edge
theorem slices_Sort_int_ok (γ : GT) (ob : OT) {o ver : Nat} {a0 r : List Int} (hx : getO ob o = some (O.row 1 ver (List.map (eI .i64) a0))) (h : slices_Sort_int a0 = some r) :
  Valid (Lx γ) 55 [V.row o ver 0 (List.length a0)] ob (.tup []) (List.set ob o (some (O.row 1 ver (List.map (eI .i64) r)))) := by
 unfold slices_Sort_int at h
 split at h
 case isFalse => cases h
 rename_i hl
 cases h
 exact Valid.sort (l := a0) ⟨⟨Tryd.f55, Tryd.func55, by kernel_rfl, rfl⟩⟩ hx hl (fun p c w => Tryd.slices_Sort_int_none p c w) (fun b o c zs w h1 h2 h3 => Tryd.slices_Sort_int b o c zs w h1 h2 h3)
theorem slices_Sort_int_len {a0 r : List Int} (h : slices_Sort_int a0 = some r) : List.length a0 = List.length r := by
 unfold slices_Sort_int at h
 split at h
 case isFalse => cases h
 cases h
 simp
end Go.Pf
end
section
set_option maxRecDepth 100000
namespace Go.Pf
open Go Go.Ab Go.Pp Go.Proofs Go.Proofs.S04
attribute [local go_sem] Lxτ Lxγ gam0 Int.toNat_natCast  eI eB eS e_Ins e_Block e_Func e_Prog e_code_writer e_code_reader e_Edge
theorem slices_Compact_int_ok (γ : GT) (ob : OT) {o ver : Nat} {a0 r : List Int} (hx : getO ob o = some (O.row 1 ver (List.map (eI .i64) a0))) (h : slices_Compact_int a0 = some r) :
  Valid (Lx γ) 56 [V.row o ver 0 (List.length a0)] ob (.row o ver 0 (List.length r)) (List.set ob o (some (O.row 1 ver (List.map (eI .i64) r)))) := by
 unfold slices_Compact_int at h
 split at h
 case isFalse => cases h
 rename_i hl
 cases h
 exact Valid.compact (l := a0) ⟨⟨Tryd.f56, Tryd.func56, by kernel_rfl, rfl⟩⟩ hx hl (fun p c w => Tryd.slices_Compact_int_empty p c w) (fun b o c zs w h1 h2 h3 => Tryd.slices_Compact_int b o c zs w h1 h2 h3)
end Go.Pf
end
section
set_option maxRecDepth 100000
namespace Go.Pf
open Go Go.Ab Go.Pp Go.Proofs Go.Proofs.S04
attribute [local go_sem] Lxτ Lxγ gam0 Int.toNat_natCast tau3 tau28 tau35 eI eB eS e_Ins e_Block e_Func e_Prog e_code_writer e_code_reader e_Edge
set_option maxHeartbeats 1000000 in
theorem shape_Next_ok (γ : GT) (ob : OT) {a0 : Ins} {v0_6 : V} (hv0_6 : rdK (getO ob) 1 v0_6 = some (List.map (eI .i64) a0.Args)) {r : List Int} (h : shape_Next a0 = some r) :
  Valid (Lx γ) 24 [V.agg [vint .i64 a0.Op, vint .i64 a0.D, vint .i64 a0.A, vint .i64 a0.B, vint .i64 a0.N, vint .i64 a0.M, v0_6]] ob (V.row ob.length 0 0 (List.length r)) (ob ++ [some (O.row 1 0 (List.map (eI .i64) r))]) := by
 refine valid_X (lx_ok γ) (fn := Tryd.f24) (rs := [.tmp 2]) Tryd.func24 (by kernel_rfl) rfl rfl Tryd.ntmps24 rfl (by simp) fun hb hob => ?_
 have hq := rd4 hv0_6
 rw [shape_Next] at h
 refine X_sr (lx_ok γ) ?_
 simp -implicitDefEqProofs only [go_sem, seval, hq]
 refine X_sr (lx_ok γ) ?_
 simp -implicitDefEqProofs only [go_sem, seval, hq]
 refine X_seq ?_
 refine X_jq (J := fun as1 ob1 => ∃ (x1 : List Int), shape_Next.j1 x1 = some r ∧ [(3, V.row ob.length 0 0 (List.length x1))] = as1 ∧ ob ++ [some (O.row 1 0 (List.map (eI .i64) x1))] = ob1) ?_ ?_
 ·rintro as1 ob1 ⟨x1, h, rfl, rfl⟩
  rw [shape_Next.j1] at h
  simp -implicitDefEqProofs only [go_sem, seval, hq]
  refine X_sr (lx_ok γ) ?_
  obtain ⟨x2, f1, h⟩ := bindE h
  have f2 : List.length x1 = List.length x2 := slices_Sort_int_len f1
  simp -implicitDefEqProofs only [go_sem, seval, hq]
  refine callV_eq (slices_Sort_int_ok γ _ (by simp -implicitDefEqProofs only [go_sem, seval, hq]; try rfl) f1) rfl rfl ?_
  simp -implicitDefEqProofs only [go_sem, seval, hq, f2]
  refine X_sr (lx_ok γ) ?_
  obtain ⟨x3, f3, h⟩ := bindE h
  simp -implicitDefEqProofs only [go_sem, seval, hq, f2]
  refine callV_eq (slices_Compact_int_ok γ _ (by simp -implicitDefEqProofs only [go_sem, seval, hq, f2]; try rfl) f3) rfl rfl ?_
  simp -implicitDefEqProofs only [go_sem, seval, hq, f2]
  obtain rfl := sI h
  refine X_ret ?_
  simp -implicitDefEqProofs only [go_sem, seval, hq, f2]
  exact Rt.mv [(0, 0)] (BaseR.refl hob) (by simp) (by decide) (VM.rowL (j := 0) (t := 0) rfl (by first | rfl | simp | simp_all | omega)) ⟨⟨_, rfl, OM.row' (by first | rfl | simp_all)⟩, trivial⟩
 ·refine X_sr (lx_ok γ) ?_
  simp -implicitDefEqProofs only [go_sem, seval, hq]
  refine X_block ?_
  refine X_sr (lx_ok γ) ?_
  simp -implicitDefEqProofs only [go_sem, seval, hq]
  cases f4 : (a0.Op == 22)
  ·rw [if_neg (nF f4)] at h
   refine X_cond (lx_ok γ) ?_
   simp -implicitDefEqProofs only [go_sem, seval, f4, hq]
   refine X_sr (lx_ok γ) ?_
   simp -implicitDefEqProofs only [go_sem, seval, f4, hq]
   cases f5 : (a0.Op == 21)
   ·rw [if_neg (nF f5)] at h
    refine X_cond (lx_ok γ) ?_
    simp -implicitDefEqProofs only [go_sem, seval, f4, f5, hq]
    refine X_skip ?_
    try simp -implicitDefEqProofs only [go_sem]
    refine kJ_in ?_ ⟨[], h, rfl, rfl⟩
    exact To.trans (To.gh (as' := [(3, V.row (ob.length + 1) 0 0 0)]) (l' := [some (O.box [_, _, _, _, _, _, _])]) 1 ⟨VG.nilL, trivial⟩ ⟨Or.inl rfl, trivial⟩) (To.mv [(1, 0)] (BaseR.refl hob) (by simp) (by decide) (by simp only [go_sem]; exact VM.rowL (j := 1) (t := 0) rfl (by simp)) ⟨⟨_, rfl, OM.row' rfl⟩, trivial⟩)
   ·rw [if_pos f5] at h
    refine X_cond (lx_ok γ) ?_
    simp -implicitDefEqProofs only [go_sem, seval, f4, f5, hq]
    refine X_reg (lx_ok γ) ?_
    simp -implicitDefEqProofs only [go_sem, seval, f4, f5, hq]
    refine kJ_in ?_ ⟨[a0.N], h, rfl, rfl⟩
    exact To.mv [(1, 0)] (BaseR.refl hob) (by simp) (by decide) (by simp only [go_sem]; exact VM.rowL (j := 1) (t := 0) rfl (by first | rfl | simp | simp_all | omega)) ⟨⟨_, rfl, OM.row' (by first | rfl | simp_all)⟩, trivial⟩
  ·rw [if_pos f4] at h
   refine X_cond (lx_ok γ) ?_
   simp -implicitDefEqProofs only [go_sem, seval, f4, hq]
   refine X_reg (lx_ok γ) ?_
   simp -implicitDefEqProofs only [go_sem, seval, f4, hq]
   refine kJ_in ?_ ⟨[a0.N, a0.M], h, rfl, rfl⟩
   exact To.mv [(1, 0)] (BaseR.refl hob) (by simp) (by decide) (by simp only [go_sem]; exact VM.rowL (j := 1) (t := 0) rfl (by first | rfl | simp | simp_all | omega)) ⟨⟨_, rfl, OM.row' (by first | rfl | simp_all)⟩, trivial⟩
end Go.Pf
end
section
set_option maxRecDepth 100000
namespace Go.Pf
open Go Go.Ab Go.Pp Go.Proofs Go.Proofs.S04
attribute [local go_sem] Lxτ Lxγ gam0 Int.toNat_natCast tau9 tau21 eI eB eS e_Ins e_Block e_Func e_Prog e_code_writer e_code_reader e_Edge
set_option maxHeartbeats 1000000 in
theorem shape_hasAny_ok (γ : GT) (ob : OT) {a0 : ByteArray} {a1 : ByteArray} {r : Bool} (h : shape_hasAny a0 a1 = some r) :
  Valid (Lx γ) 76 [vstr a0, vstr a1] ob (vbool r) ob := by
 refine valid_X (lx_ok γ) (fn := Tryd.f76) (rs := [.tmp 4]) Tryd.func76 (by kernel_rfl) rfl rfl Tryd.ntmps76 rfl (by simp) fun hb hob => ?_
 rw [shape_hasAny] at h
 refine X_sr (lx_ok γ) ?_
 simp -implicitDefEqProofs only [go_sem, seval]
 refine X_seq ?_
 refine X_sr (lx_ok γ) ?_
 simp -implicitDefEqProofs only [go_sem, seval]
 refine X_jq (J := fun as1 ob1 => shape_hasAny.k1 = some r ∧ [] = as1 ∧ ob = ob1) ?_ ?_
 ·rintro as1 ob1 ⟨h, rfl, rfl⟩
  rw [shape_hasAny.k1] at h
  simp -implicitDefEqProofs only [go_sem, seval]
  refine X_sr (lx_ok γ) ?_
  simp -implicitDefEqProofs only [go_sem, seval]
  obtain rfl := sI h
  refine X_ret ?_
  simp -implicitDefEqProofs only [go_sem, seval]
  exact Rt.mv1 (BaseR.refl hob) (by simp) (vS)
 ·refine X_block ?_
  obtain ⟨lr1, hl1, hk1, hr1⟩ := aft2 h
  refine X_while hl1 (fun (s : Nat) as1 ob1 => [(1, vstr a1), (10, V.ref ob.length 0)] = as1 ∧ ob ++ [some (O.iter a0 s)] = ob1) ⟨_, _, ?_, rfl, rfl⟩ ?_
  ·exact To.mv [(0, 0)] (BaseR.refl hob) (by simp) (by decide) (by simp only [go_sem]; exact ⟨vS, VM.refA (j := 0) (t := 0) rfl⟩) ⟨⟨_, rfl, OM.iter _ _⟩, trivial⟩
  ·rintro x1 o1 h ho1 as1 ob1 ⟨rfl, rfl⟩
   rw [shape_hasAny.b1] at h
   refine X_sr (lx_ok γ) ?_
   simp -implicitDefEqProofs only [go_sem, seval]
   refine X_seq ?_
   cases f1 : decide (x1 < a0.size)
   ·rw [if_neg (nF f1)] at h
    refine X_cond (lx_ok γ) ?_
    simp -implicitDefEqProofs only [go_sem, seval, f1]
    obtain rfl := sI h
    have h := hk1 _ (.inr (ho1 (fun _ hs => nomatch hs)))
    refine X_exit ?_
    try simp -implicitDefEqProofs only [go_sem, ↓reduceIte, Nat.reduceEqDiff, reduceCtorEq]
    refine kJ_in ?_ ⟨h, rfl, rfl⟩
    exact To.mv0 (BaseR.refl hob) (by simp) trivial
   ·rw [if_pos f1] at h
    refine X_cond (lx_ok γ) ?_
    simp -implicitDefEqProofs only [go_sem, seval, f1]
    refine X_skip ?_
    try simp -implicitDefEqProofs only [go_sem]
    refine X_block ?_
    refine X_sr (lx_ok γ) ?_
    simp -implicitDefEqProofs only [go_sem, seval, f1]
    refine X_sr (lx_ok γ) ?_
    simp -implicitDefEqProofs only [go_sem, seval, f1]
    refine X_jq (J := fun as1 ob1 => shape_hasAny.k2 a0 x1 = some o1 ∧ [(1, vstr a1), (10, V.ref ob.length 0)] = as1 ∧ ob ++ [some (O.iter a0 (nxP a0 x1))] = ob1) ?_ ?_
    ·rintro as1 ob1 ⟨h, rfl, rfl⟩
     rw [shape_hasAny.k2] at h
     obtain rfl := sI h
     simp -implicitDefEqProofs only [go_sem, seval, f1]
     refine kR_in rfl ?_ ⟨rfl, rfl⟩
     exact To.mv [(0, 0)] (BaseR.refl hob) (by simp) (by decide) (by simp only [go_sem]; exact ⟨vS, VM.refA (j := 0) (t := 0) rfl⟩) ⟨⟨_, rfl, OM.iter _ _⟩, trivial⟩
    ·refine X_block ?_
     obtain ⟨lr2, hl2, hk2, hr2⟩ := aft2 h
     refine X_while hl2 (fun (s : Nat) as1 ob1 => [(1, vstr a1), (6, vint .i32 (decI a0 x1)), (10, V.ref ob.length 0), (15, V.ref (ob.length + 1) 0)] = as1 ∧ ob ++ [some (O.iter a0 (nxP a0 x1)), some (O.iter a1 s)] = ob1) ⟨_, _, ?_, rfl, rfl⟩ ?_
     ·exact To.mv [(0, 0), (1, 0)] (BaseR.refl hob) (by simp) (by decide) (by simp only [go_sem]; exact ⟨vS, vS, VM.refA (j := 0) (t := 0) rfl, VM.refA (j := 1) (t := 1) rfl⟩) ⟨⟨_, rfl, OM.iter _ _⟩, ⟨_, rfl, OM.iter _ _⟩, trivial⟩
     ·rintro x2 o2 h ho2 as1 ob1 ⟨rfl, rfl⟩
      rw [shape_hasAny.b2] at h
      refine X_sr (lx_ok γ) ?_
      simp -implicitDefEqProofs only [go_sem, seval, f1]
      refine X_seq ?_
      cases f2 : decide (x2 < a1.size)
      ·rw [if_neg (nF f2)] at h
       refine X_cond (lx_ok γ) ?_
       simp -implicitDefEqProofs only [go_sem, seval, f1, f2]
       obtain rfl := sI h
       have h := hk2 _ (.inr (ho2 (fun _ hs => nomatch hs)))
       refine X_exit ?_
       try simp -implicitDefEqProofs only [go_sem, ↓reduceIte, Nat.reduceEqDiff, reduceCtorEq]
       refine kJ_in ?_ ⟨h, rfl, rfl⟩
       exact To.mv [(0, 0)] (BaseR.refl hob) (by simp) (by decide) (by simp only [go_sem]; exact ⟨vS, VM.refA (j := 0) (t := 0) rfl⟩) ⟨⟨_, rfl, OM.iter _ _⟩, trivial⟩
      ·rw [if_pos f2] at h
       refine X_cond (lx_ok γ) ?_
       simp -implicitDefEqProofs only [go_sem, seval, f1, f2]
       refine X_skip ?_
       try simp -implicitDefEqProofs only [go_sem]
       refine X_block ?_
       refine X_sr (lx_ok γ) ?_
       simp -implicitDefEqProofs only [go_sem, seval, f1, f2]
       refine X_sr (lx_ok γ) ?_
       simp -implicitDefEqProofs only [go_sem, seval, f1, f2]
       cases f3 : ((decI a0 x1) == (decI a1 x2))
       ·rw [if_neg (nF f3)] at h
        refine X_cond (lx_ok γ) ?_
        simp -implicitDefEqProofs only [go_sem, seval, f1, f2, f3]
        obtain rfl := sI h
        refine X_skip ?_
        try simp -implicitDefEqProofs only [go_sem]
        refine kR_in rfl ?_ ⟨rfl, rfl⟩
        exact To.mv [(0, 0), (1, 0)] (BaseR.refl hob) (by simp) (by decide) (by simp only [go_sem]; exact ⟨vS, vS, VM.refA (j := 0) (t := 0) rfl, VM.refA (j := 1) (t := 1) rfl⟩) ⟨⟨_, rfl, OM.iter _ _⟩, ⟨_, rfl, OM.iter _ _⟩, trivial⟩
       ·rw [if_pos f3] at h
        refine X_cond (lx_ok γ) ?_
        simp -implicitDefEqProofs only [go_sem, seval, f1, f2, f3]
        refine X_sr (lx_ok γ) ?_
        simp -implicitDefEqProofs only [go_sem, seval, f1, f2, f3]
        obtain rfl := sI h
        have h := hr2 _ (ho2 (fun _ hs => nomatch hs))
        obtain rfl := sI h
        have h := hr1 _ (ho1 (fun _ hs => nomatch hs))
        obtain rfl := sI h
        refine X_ret ?_
        simp -implicitDefEqProofs only [go_sem, seval, f1, f2, f3]
        exact Rt.mv0 (BaseR.refl hob) (by simp) (vS)
end Go.Pf
end
section
set_option maxRecDepth 100000
namespace Go.Pf
open Go Go.Ab Go.Pp Go.Proofs Go.Proofs.S04
attribute [local go_sem] Lxτ Lxγ gam0 Int.toNat_natCast tau3 tau4 tau9 tau28 tau35 eI eB eS e_Ins e_Block e_Func e_Prog e_code_writer e_code_reader e_Edge
set_option maxHeartbeats 1000000 in
theorem shape_bare_1_ok (γ : GT) (ob : OT) {a0 : Int} {a1 : ByteArray} {o2 : Nat} {a2 : Ins} {u2_6 : V} (hx2 : getO ob o2 = some (O.box [vint .i64 a2.Op, vint .i64 a2.D, vint .i64 a2.A, vint .i64 a2.B, vint .i64 a2.N, vint .i64 a2.M, u2_6])) {r : Bool} (h : shape_bare_1 a0 a1 a2 = some r) :
  Valid (Lx γ) 75 [vint .i64 a0, vstr a1, V.ref o2 0] ob (vbool r) ob := by
 refine valid_X (lx_ok γ) (fn := Tryd.f75) (rs := [.tmp 5]) Tryd.func75 (by kernel_rfl) rfl rfl Tryd.ntmps75 rfl (by simp) fun hb hob => ?_
 have hoa2 := getO_lt hx2
 have bu2_6 : Bd ob.length u2_6 := hob _ _ hx2 u2_6 (by simp)
 rw [shape_bare_1] at h
 refine X_sr (lx_ok γ) ?_
 simp -implicitDefEqProofs only [go_sem, seval, hx2, getO_ext hx2]
 refine X_sr (lx_ok γ) ?_
 cases f1 : (a0 != 0)
 ·rw [if_neg (nF f1)] at h
  simp -implicitDefEqProofs only [go_sem, seval, f1, hx2, getO_ext hx2]
  obtain rfl := sI h
  refine X_ret ?_
  simp -implicitDefEqProofs only [go_sem, seval, f1, hx2, getO_ext hx2]
  exact Rt.mv1 (BaseR.refl hob) (by simp) (vS)
 ·rw [if_pos f1] at h
  obtain ⟨x1, f2, h⟩ := bindE h
  simp -implicitDefEqProofs only [go_sem, seval, f1, hx2, getO_ext hx2]
  refine callV_eq (code_Parts_ok γ _  f2) rfl rfl ?_
  obtain ⟨x2, f3, h⟩ := bindE h
  simp -implicitDefEqProofs only [go_sem, seval, f1, hx2, getO_ext hx2]
  refine callV_eq (shape_hasAny_ok γ _  f3) rfl rfl ?_
  simp -implicitDefEqProofs only [go_sem, seval, f1, hx2, getO_ext hx2]
  obtain rfl := sI h
  refine X_ret ?_
  simp -implicitDefEqProofs only [go_sem, seval, f1, hx2, getO_ext hx2]
  exact Rt.mv1 (BaseR.refl hob) (by simp) (vS)
end Go.Pf
end
section
set_option maxRecDepth 100000
namespace Go.Pf
open Go Go.Ab Go.Pp Go.Proofs Go.Proofs.S04
attribute [local go_sem] Lxτ Lxγ gam0 Int.toNat_natCast tau3 tau4 tau9 tau28 tau35 eI eB eS e_Ins e_Block e_Func e_Prog e_code_writer e_code_reader e_Edge
set_option maxHeartbeats 1000000 in
theorem shape_bare_ok (γ : GT) (ob : OT) {a0 : Ins} {v0_6 : V} (hv0_6 : rdK (getO ob) 1 v0_6 = some (List.map (eI .i64) a0.Args)) {r : Bool} (h : shape_bare a0 = some r) :
  Valid (Lx γ) 47 [V.agg [vint .i64 a0.Op, vint .i64 a0.D, vint .i64 a0.A, vint .i64 a0.B, vint .i64 a0.N, vint .i64 a0.M, v0_6]] ob (vbool r) ob := by
 refine valid_X (lx_ok γ) (fn := Tryd.f47) (rs := [.tmp 2]) Tryd.func47 (by kernel_rfl) rfl rfl Tryd.ntmps47 rfl (by simp) fun hb hob => ?_
 have hq := rd4 hv0_6
 rw [shape_bare] at h
 refine X_sr (lx_ok γ) ?_
 simp -implicitDefEqProofs only [go_sem, seval, hq]
 refine X_sr (lx_ok γ) ?_
 simp -implicitDefEqProofs only [go_sem, seval, hq]
 refine X_sr (lx_ok γ) ?_
 obtain ⟨x1, f1, h⟩ := bindE h
 simp -implicitDefEqProofs only [go_sem, seval, hq]
 refine callV_eq (shape_bare_1_ok γ _ (by simp -implicitDefEqProofs only [go_sem, seval, hq]; try rfl) f1) rfl rfl ?_
 cases f2 : x1
 ·rw [if_neg (nF f2)] at h
  obtain ⟨x2, f3, h⟩ := bindE h
  simp -implicitDefEqProofs only [go_sem, seval, f2, hq]
  refine callV_eq (shape_bare_1_ok γ _ (by simp -implicitDefEqProofs only [go_sem, seval, f2, hq]; try rfl) f3) rfl rfl ?_
  cases f4 : x2
  ·rw [if_neg (nF f4)] at h
   obtain ⟨x3, f5, h⟩ := bindE h
   simp -implicitDefEqProofs only [go_sem, seval, f2, f4, hq]
   refine callV_eq (shape_bare_1_ok γ _ (by simp -implicitDefEqProofs only [go_sem, seval, f2, f4, hq]; try rfl) f5) rfl rfl ?_
   cases f6 : x3
   ·rw [if_neg (nF f6)] at h
    obtain ⟨x4, f7, h⟩ := bindE h
    simp -implicitDefEqProofs only [go_sem, seval, f2, f4, f6, hq]
    refine callV_eq (shape_bare_1_ok γ _ (by simp -implicitDefEqProofs only [go_sem, seval, f2, f4, f6, hq]; try rfl) f7) rfl rfl ?_
    cases f8 : x4
    ·rw [if_neg (nF f8)] at h
     obtain ⟨x5, f9, h⟩ := bindE h
     simp -implicitDefEqProofs only [go_sem, seval, f2, f4, f6, f8, hq]
     refine callV_eq (shape_bare_1_ok γ _ (by simp -implicitDefEqProofs only [go_sem, seval, f2, f4, f6, f8, hq]; try rfl) f9) rfl rfl ?_
     cases f10 : x5
     ·rw [if_neg (nF f10)] at h
      obtain ⟨x6, f11, h⟩ := bindE h
      simp -implicitDefEqProofs only [go_sem, seval, f2, f4, f6, f8, f10, hq]
      refine callV_eq (shape_bare_1_ok γ _ (by simp -implicitDefEqProofs only [go_sem, seval, f2, f4, f6, f8, f10, hq]; try rfl) f11) rfl rfl ?_
      simp -implicitDefEqProofs only [go_sem, seval, f2, f4, f6, f8, f10, hq]
      obtain rfl := sI h
      refine X_ret ?_
      simp -implicitDefEqProofs only [go_sem, seval, f2, f4, f6, f8, f10, hq]
      exact Rt.mv0 (BaseR.refl hob) (by simp) (vS)
     ·rw [if_pos f10] at h
      simp -implicitDefEqProofs only [go_sem, seval, f2, f4, f6, f8, f10, hq]
      obtain rfl := sI h
      refine X_ret ?_
      simp -implicitDefEqProofs only [go_sem, seval, f2, f4, f6, f8, f10, hq]
      exact Rt.mv0 (BaseR.refl hob) (by simp) (vS)
    ·rw [if_pos f8] at h
     simp -implicitDefEqProofs only [go_sem, seval, f2, f4, f6, f8, hq]
     obtain rfl := sI h
     refine X_ret ?_
     simp -implicitDefEqProofs only [go_sem, seval, f2, f4, f6, f8, hq]
     exact Rt.mv0 (BaseR.refl hob) (by simp) (vS)
   ·rw [if_pos f6] at h
    simp -implicitDefEqProofs only [go_sem, seval, f2, f4, f6, hq]
    obtain rfl := sI h
    refine X_ret ?_
    simp -implicitDefEqProofs only [go_sem, seval, f2, f4, f6, hq]
    exact Rt.mv0 (BaseR.refl hob) (by simp) (vS)
  ·rw [if_pos f4] at h
   simp -implicitDefEqProofs only [go_sem, seval, f2, f4, hq]
   obtain rfl := sI h
   refine X_ret ?_
   simp -implicitDefEqProofs only [go_sem, seval, f2, f4, hq]
   exact Rt.mv0 (BaseR.refl hob) (by simp) (vS)
 ·rw [if_pos f2] at h
  simp -implicitDefEqProofs only [go_sem, seval, f2, hq]
  obtain rfl := sI h
  refine X_ret ?_
  simp -implicitDefEqProofs only [go_sem, seval, f2, hq]
  exact Rt.mv0 (BaseR.refl hob) (by simp) (vS)
end Go.Pf
end
section
set_option maxRecDepth 100000
namespace Go.Pf
open Go Go.Ab Go.Pp Go.Proofs Go.Proofs.S04
attribute [local go_sem] Lxτ Lxγ gam0 Int.toNat_natCast tau3 tau22 tau24 tau28 tau29 tau31 tau35 tau42 tau44 eI eB eS e_Ins e_Block e_Func e_Prog e_code_writer e_code_reader e_Edge
set_option maxHeartbeats 1000000 in
theorem shape_numbers_ok (γ : GT) (ob : OT) {a0 : Prog} {v0_0 : V} {a1 : Ins} {v1_6 : V} (hv0_0 : rdK (getO ob) 5 v0_0 = some (List.map e_Func a0.Funcs)) (hv1_6 : rdK (getO ob) 1 v1_6 = some (List.map (eI .i64) a1.Args)) {r : Bool} (h : shape_numbers a0 a1 = some r) :
  Valid (Lx γ) 48 [V.agg [v0_0], V.agg [vint .i64 a1.Op, vint .i64 a1.D, vint .i64 a1.A, vint .i64 a1.B, vint .i64 a1.N, vint .i64 a1.M, v1_6]] ob (vbool r) ob := by
 refine valid_X (lx_ok γ) (fn := Tryd.f48) (rs := [.tmp 4]) Tryd.func48 (by kernel_rfl) rfl rfl Tryd.ntmps48 rfl (by simp) fun hb hob => ?_
 have hq := And.intro (rd4 hv0_0) (rd4 hv1_6)
 rw [shape_numbers] at h
 refine X_sr (lx_ok γ) ?_
 simp -implicitDefEqProofs only [go_sem, seval, hq]
 refine X_seq ?_
 refine X_sr (lx_ok γ) ?_
 simp -implicitDefEqProofs only [go_sem, seval, hq]
 refine X_block ?_
 refine X_sr (lx_ok γ) ?_
 simp -implicitDefEqProofs only [go_sem, seval, hq]
 cases f1 : (a1.Op == 19)
 ·rw [if_neg (nF f1)] at h
  refine X_cond (lx_ok γ) ?_
  simp -implicitDefEqProofs only [go_sem, seval, f1, hq]
  refine X_sr (lx_ok γ) ?_
  simp -implicitDefEqProofs only [go_sem, seval, f1, hq]
  cases f2 : (a1.Op == 1)
  ·rw [if_neg (nF f2)] at h
   refine X_cond (lx_ok γ) ?_
   simp -implicitDefEqProofs only [go_sem, seval, f1, f2, hq]
   refine X_sr (lx_ok γ) ?_
   simp -implicitDefEqProofs only [go_sem, seval, f1, f2, hq]
   cases f3 : (a1.Op == 16)
   ·rw [if_neg (nF f3)] at h
    refine X_cond (lx_ok γ) ?_
    simp -implicitDefEqProofs only [go_sem, seval, f1, f2, f3, hq]
    refine X_sr (lx_ok γ) ?_
    simp -implicitDefEqProofs only [go_sem, seval, f1, f2, f3, hq]
    cases f4 : (a1.Op == 10)
    ·rw [if_neg (nF f4)] at h
     refine X_cond (lx_ok γ) ?_
     simp -implicitDefEqProofs only [go_sem, seval, f1, f2, f3, f4, hq]
     refine X_seq ?_
     refine X_jq (J := fun as1 ob1 => ∃ (x5 : Bool), shape_numbers.j1 a1 x5 = some r ∧ [(3, V.ref ob.length 0), (49, vbool x5)] = as1 ∧ ob ++ [some (O.box [vint .i64 a1.Op, vint .i64 a1.D, vint .i64 a1.A, vint .i64 a1.B, vint .i64 a1.N, vint .i64 a1.M, v1_6])] = ob1) ?_ ?_
     ·rintro as1 ob1 ⟨x5, h, rfl, rfl⟩
      rw [shape_numbers.j1] at h
      simp -implicitDefEqProofs only [go_sem, seval, f1, f2, f3, f4, hq]
      cases f5 : x5
      ·rw [if_neg (nF f5)] at h
       refine X_cond (lx_ok γ) ?_
       simp -implicitDefEqProofs only [go_sem, seval, f1, f2, f3, f4, f5, hq]
       refine X_skip ?_
       try simp -implicitDefEqProofs only [go_sem]
       refine X_sr (lx_ok γ) ?_
       simp -implicitDefEqProofs only [go_sem, seval, f1, f2, f3, f4, f5, hq]
       obtain rfl := sI h
       refine X_ret ?_
       simp -implicitDefEqProofs only [go_sem, seval, f1, f2, f3, f4, f5, hq]
       exact Rt.mv0 (BaseR.refl hob) (by simp) (vS)
      ·rw [if_pos f5] at h
       refine X_cond (lx_ok γ) ?_
       simp -implicitDefEqProofs only [go_sem, seval, f1, f2, f3, f4, f5, hq]
       refine X_sr (lx_ok γ) ?_
       obtain ⟨x6, f6, h⟩ := bindE h
       simp -implicitDefEqProofs only [go_sem, seval, f1, f2, f3, f4, f5, hq]
       refine callV_eq (shape_within_ok γ _  f6) rfl rfl ?_
       simp -implicitDefEqProofs only [go_sem, seval, f1, f2, f3, f4, f5, hq]
       obtain rfl := sI h
       refine X_ret ?_
       simp -implicitDefEqProofs only [go_sem, seval, f1, f2, f3, f4, f5, hq]
       exact Rt.mv0 (BaseR.refl hob) (by simp) (vS)
     ·refine X_sr (lx_ok γ) ?_
      simp -implicitDefEqProofs only [go_sem, seval, f1, f2, f3, f4, hq]
      cases f7 : (a1.Op == 11)
      ·rw [if_neg (nF f7)] at h
       refine X_cond (lx_ok γ) ?_
       simp -implicitDefEqProofs only [go_sem, seval, f1, f2, f3, f4, f7, hq]
       refine X_sr (lx_ok γ) ?_
       simp -implicitDefEqProofs only [go_sem, seval, f1, f2, f3, f4, f7, hq]
       cases f8 : (a1.Op == 12)
       ·rw [if_neg (nF f8)] at h
        refine X_cond (lx_ok γ) ?_
        simp -implicitDefEqProofs only [go_sem, seval, f1, f2, f3, f4, f7, f8, hq]
        refine X_sr (lx_ok γ) ?_
        simp -implicitDefEqProofs only [go_sem, seval, f1, f2, f3, f4, f7, f8, hq]
        cases f9 : (a1.Op == 13)
        ·rw [if_neg (nF f9)] at h
         refine X_cond (lx_ok γ) ?_
         simp -implicitDefEqProofs only [go_sem, seval, f1, f2, f3, f4, f7, f8, f9, hq]
         refine X_sr (lx_ok γ) ?_
         simp -implicitDefEqProofs only [go_sem, seval, f1, f2, f3, f4, f7, f8, f9, hq]
         cases f10 : (a1.Op == 14)
         ·rw [if_neg (nF f10)] at h
          refine X_cond (lx_ok γ) ?_
          simp -implicitDefEqProofs only [go_sem, seval, f1, f2, f3, f4, f7, f8, f9, f10, hq]
          refine X_reg (lx_ok γ) ?_
          simp -implicitDefEqProofs only [go_sem, seval, f1, f2, f3, f4, f7, f8, f9, f10, hq]
          refine kJ_in ?_ ⟨(a1.Op == 15), h, rfl, rfl⟩
          exact To.mv [(1, 0)] (BaseR.refl hob) (by simp) (by decide) (by simp only [go_sem]; exact ⟨VM.refA (j := 1) (t := 0) rfl, vS⟩) ⟨⟨_, rfl, OM.box _ _ ⟨vS, vS, vS, vS, vS, vS, VM.self (by simpa using Bd.of_rdK hv1_6), trivial⟩⟩, trivial⟩
         ·rw [if_pos f10] at h
          refine X_cond (lx_ok γ) ?_
          simp -implicitDefEqProofs only [go_sem, seval, f1, f2, f3, f4, f7, f8, f9, f10, hq]
          refine X_skip ?_
          try simp -implicitDefEqProofs only [go_sem]
          refine kJ_in ?_ ⟨true, h, rfl, rfl⟩
          exact To.mv [(1, 0)] (BaseR.refl hob) (by simp) (by decide) (by simp only [go_sem]; exact ⟨VM.refA (j := 1) (t := 0) rfl, vS⟩) ⟨⟨_, rfl, OM.box _ _ ⟨vS, vS, vS, vS, vS, vS, VM.self (by simpa using Bd.of_rdK hv1_6), trivial⟩⟩, trivial⟩
        ·rw [if_pos f9] at h
         refine X_cond (lx_ok γ) ?_
         simp -implicitDefEqProofs only [go_sem, seval, f1, f2, f3, f4, f7, f8, f9, hq]
         refine X_skip ?_
         try simp -implicitDefEqProofs only [go_sem]
         refine kJ_in ?_ ⟨true, h, rfl, rfl⟩
         exact To.mv [(1, 0)] (BaseR.refl hob) (by simp) (by decide) (by simp only [go_sem]; exact ⟨VM.refA (j := 1) (t := 0) rfl, vS⟩) ⟨⟨_, rfl, OM.box _ _ ⟨vS, vS, vS, vS, vS, vS, VM.self (by simpa using Bd.of_rdK hv1_6), trivial⟩⟩, trivial⟩
       ·rw [if_pos f8] at h
        refine X_cond (lx_ok γ) ?_
        simp -implicitDefEqProofs only [go_sem, seval, f1, f2, f3, f4, f7, f8, hq]
        refine X_skip ?_
        try simp -implicitDefEqProofs only [go_sem]
        refine kJ_in ?_ ⟨true, h, rfl, rfl⟩
        exact To.mv [(1, 0)] (BaseR.refl hob) (by simp) (by decide) (by simp only [go_sem]; exact ⟨VM.refA (j := 1) (t := 0) rfl, vS⟩) ⟨⟨_, rfl, OM.box _ _ ⟨vS, vS, vS, vS, vS, vS, VM.self (by simpa using Bd.of_rdK hv1_6), trivial⟩⟩, trivial⟩
      ·rw [if_pos f7] at h
       refine X_cond (lx_ok γ) ?_
       simp -implicitDefEqProofs only [go_sem, seval, f1, f2, f3, f4, f7, hq]
       refine X_skip ?_
       try simp -implicitDefEqProofs only [go_sem]
       refine kJ_in ?_ ⟨true, h, rfl, rfl⟩
       exact To.mv [(1, 0)] (BaseR.refl hob) (by simp) (by decide) (by simp only [go_sem]; exact ⟨VM.refA (j := 1) (t := 0) rfl, vS⟩) ⟨⟨_, rfl, OM.box _ _ ⟨vS, vS, vS, vS, vS, vS, VM.self (by simpa using Bd.of_rdK hv1_6), trivial⟩⟩, trivial⟩
    ·rw [if_pos f4] at h
     refine X_cond (lx_ok γ) ?_
     simp -implicitDefEqProofs only [go_sem, seval, f1, f2, f3, f4, hq]
     refine X_sr (lx_ok γ) ?_
     obtain ⟨x7, f11, h⟩ := bindE h
     simp -implicitDefEqProofs only [go_sem, seval, f1, f2, f3, f4, hq]
     refine callV_eq (shape_within_ok γ _  f11) rfl rfl ?_
     cases f12 : x7
     ·rw [if_neg (nF f12)] at h
      simp -implicitDefEqProofs only [go_sem, seval, f1, f2, f3, f4, f12, hq]
      obtain rfl := sI h
      refine X_ret ?_
      simp -implicitDefEqProofs only [go_sem, seval, f1, f2, f3, f4, f12, hq]
      exact Rt.mv0 (BaseR.refl hob) (by simp) (vS)
     ·rw [if_pos f12] at h
      obtain ⟨x8, f13, h⟩ := bindE h
      simp -implicitDefEqProofs only [go_sem, seval, f1, f2, f3, f4, f12, hq]
      refine callV_eq (shape_within_ok γ _  f13) rfl rfl ?_
      simp -implicitDefEqProofs only [go_sem, seval, f1, f2, f3, f4, f12, hq]
      obtain rfl := sI h
      refine X_ret ?_
      simp -implicitDefEqProofs only [go_sem, seval, f1, f2, f3, f4, f12, hq]
      exact Rt.mv0 (BaseR.refl hob) (by simp) (vS)
   ·rw [if_pos f3] at h
    refine X_cond (lx_ok γ) ?_
    simp -implicitDefEqProofs only [go_sem, seval, f1, f2, f3, hq]
    refine X_sr (lx_ok γ) ?_
    obtain ⟨x9, f14, h⟩ := bindE h
    simp -implicitDefEqProofs only [go_sem, seval, f1, f2, f3, hq]
    refine callV_eq (shape_within_ok γ _  f14) rfl rfl ?_
    simp -implicitDefEqProofs only [go_sem, seval, f1, f2, f3, hq]
    obtain rfl := sI h
    refine X_ret ?_
    simp -implicitDefEqProofs only [go_sem, seval, f1, f2, f3, hq]
    exact Rt.mv0 (BaseR.refl hob) (by simp) (vS)
  ·rw [if_pos f2] at h
   refine X_cond (lx_ok γ) ?_
   simp -implicitDefEqProofs only [go_sem, seval, f1, f2, hq]
   refine X_sr (lx_ok γ) ?_
   obtain ⟨x10, f15, h⟩ := bindE h
   simp -implicitDefEqProofs only [go_sem, seval, f1, f2, hq]
   refine callV_eq (shape_within_ok γ _  f15) rfl rfl ?_
   simp -implicitDefEqProofs only [go_sem, seval, f1, f2, hq]
   obtain rfl := sI h
   refine X_ret ?_
   simp -implicitDefEqProofs only [go_sem, seval, f1, f2, hq]
   exact Rt.mv0 (BaseR.refl hob) (by simp) (vS)
 ·rw [if_pos f1] at h
  refine X_cond (lx_ok γ) ?_
  simp -implicitDefEqProofs only [go_sem, seval, f1, hq]
  refine X_seq ?_
  refine X_drawn (lx_ok γ) [[], [0], [], [2], [2, 3], [2, 3, 4], [0, 1, 2, 3, 4, 5], [0, 1, 2, 3, 4, 5, 6], [0, 1, 2, 3, 4, 5, 6, 7], [0, 1, 2, 3, 4, 5, 6, 7, 8], [0, 1, 2, 3, 4, 5, 6, 7, 8, 9], [0, 1, 2, 3, 4, 5, 6, 7], [0, 1, 2, 3, 4, 5, 6, 7, 11], [0, 1, 2, 3, 4, 5, 6, 7], [0, 1, 2, 3, 4, 5, 6, 7, 13], [0, 1, 2, 3, 4, 5, 6, 7, 11, 12, 13, 14], [0, 1, 2, 3, 4, 5, 6, 7, 11, 12, 13, 14, 15], [0, 1, 2, 3, 4, 5, 6, 7, 11, 12, 13, 14, 15, 16], [0, 1, 2, 3, 4, 5, 6, 7, 8, 9, 10, 11, 12, 13, 14, 15, 16, 17], [0, 1, 2, 3, 4, 5, 6, 7, 8, 9, 10, 11, 12, 13, 14, 15, 16, 17, 18], [0, 1, 2, 3, 4, 5, 6, 7, 8, 9, 10, 11, 12, 13, 14, 15, 16, 17, 18, 19]] (fun i => match i with | _ => false) (by kernel_rfl) ?_
  obtain ⟨x11, f16, h⟩ := bindE h
  try simp -implicitDefEqProofs only [go_sem, seval, f1, hq, cmpr, List.getD_cons_zero, List.getD_cons_succ, List.contains_cons, List.contains_nil, Nat.reduceBEq, Bool.false_or, Bool.or_false, Bool.true_or, Bool.or_true, beq_self_eq_true]
  refine callV_eq (shape_within_ok γ _  f16) rfl rfl ?_
  cases f17 : x11
  ·rw [if_neg (nF f17)] at h
   try simp -implicitDefEqProofs only [go_sem, seval, f1, f17, hq, cmpr, List.getD_cons_zero, List.getD_cons_succ, List.contains_cons, List.contains_nil, Nat.reduceBEq, Bool.false_or, Bool.or_false, Bool.true_or, Bool.or_true, beq_self_eq_true]
   obtain rfl := sI h
   refine X_ret ?_
   simp -implicitDefEqProofs only [go_sem, seval, f1, f17, hq]
   exact Rt.mv0 (BaseR.refl hob) (by simp) (vS)
  ·rw [if_pos f17] at h
   obtain ⟨x12, f18, h⟩ := bindE h
   obtain ⟨f19, f20, f21⟩ := ixL_some f18
   try simp only [Int.toNat_natCast, Int.reduceToNat] at f21
   try simp -implicitDefEqProofs only [go_sem, seval, f1, f17, hq, f19, f20, f21, cmpr, List.getD_cons_zero, List.getD_cons_succ, List.contains_cons, List.contains_nil, Nat.reduceBEq, Bool.false_or, Bool.or_false, Bool.true_or, Bool.or_true, beq_self_eq_true]
   obtain rfl := sI h
   refine X_ret ?_
   simp -implicitDefEqProofs only [go_sem, seval, f1, f17, hq, f19, f20, f21]
   exact Rt.mv0 (BaseR.refl hob) (by simp) (vS)
end Go.Pf
end
section
set_option maxRecDepth 100000
namespace Go.Pf
open Go Go.Ab Go.Pp Go.Proofs Go.Proofs.S04
attribute [local go_sem] Lxτ Lxγ gam0 Int.toNat_natCast tau3 tau4 tau28 tau29 tau31 tau35 tau42 tau44 eI eB eS e_Ins e_Block e_Func e_Prog e_code_writer e_code_reader e_Edge
set_option maxHeartbeats 1000000 in
theorem shape_Ins_1_ok (γ : GT) (ob : OT) {a0 : Int} {o1 : Nat} {a1 : Func} (hx1 : getO ob o1 = some (O.box [V.tr (.sl 1 false (List.map (eI .i64) a1.Kinds)), V.tr (.sl 1 false (List.map (eI .i64) a1.Base)), vint .i64 a1.Params, vint .i64 a1.Result, V.tr (.sl 1 false (List.map e_Block a1.Blocks))])) {r : Bool} (h : shape_Ins_1 a0 a1 = some r) :
  Valid (Lx γ) 49 [vint .i64 a0, V.ref o1 0] ob (vbool r) ob := by
 refine valid_X (lx_ok γ) (fn := Tryd.f49) (rs := [.tmp 3]) Tryd.func49 (by kernel_rfl) rfl rfl Tryd.ntmps49 rfl (by simp) fun hb hob => ?_
 have hoa1 := getO_lt hx1
 rw [shape_Ins_1] at h
 refine X_sr (lx_ok γ) ?_
 simp -implicitDefEqProofs only [go_sem, seval, hx1, getO_ext hx1]
 refine X_sr (lx_ok γ) ?_
 obtain ⟨x1, f1, h⟩ := bindE h
 simp -implicitDefEqProofs only [go_sem, seval, hx1, getO_ext hx1]
 refine callV_eq (shape_within_ok γ _  f1) rfl rfl ?_
 simp -implicitDefEqProofs only [go_sem, seval, hx1, getO_ext hx1]
 obtain rfl := sI h
 refine X_ret ?_
 simp -implicitDefEqProofs only [go_sem, seval, hx1, getO_ext hx1]
 exact Rt.mv1 (BaseR.refl hob) (by simp) (vS)
end Go.Pf
end
section
set_option maxRecDepth 100000
namespace Go.Pf
open Go Go.Ab Go.Pp Go.Proofs Go.Proofs.S04
attribute [local go_sem] Lxτ Lxγ gam0 Int.toNat_natCast tau3 tau4 tau28 tau29 tau31 tau35 tau42 tau44 eI eB eS e_Ins e_Block e_Func e_Prog e_code_writer e_code_reader e_Edge
set_option maxHeartbeats 1000000 in
theorem shape_Ins_2_ok (γ : GT) (ob : OT) {a0 : Int} {o1 : Nat} {a1 : Func} (hx1 : getO ob o1 = some (O.box [V.tr (.sl 1 false (List.map (eI .i64) a1.Kinds)), V.tr (.sl 1 false (List.map (eI .i64) a1.Base)), vint .i64 a1.Params, vint .i64 a1.Result, V.tr (.sl 1 false (List.map e_Block a1.Blocks))])) {r : Bool} (h : shape_Ins_2 a0 a1 = some r) :
  Valid (Lx γ) 50 [vint .i64 a0, V.ref o1 0] ob (vbool r) ob := by
 refine valid_X (lx_ok γ) (fn := Tryd.f50) (rs := [.tmp 3]) Tryd.func50 (by kernel_rfl) rfl rfl Tryd.ntmps50 rfl (by simp) fun hb hob => ?_
 have hoa1 := getO_lt hx1
 rw [shape_Ins_2] at h
 refine X_sr (lx_ok γ) ?_
 simp -implicitDefEqProofs only [go_sem, seval, hx1, getO_ext hx1]
 refine X_sr (lx_ok γ) ?_
 obtain ⟨x1, f1, h⟩ := bindE h
 simp -implicitDefEqProofs only [go_sem, seval, hx1, getO_ext hx1]
 refine callV_eq (shape_within_ok γ _  f1) rfl rfl ?_
 simp -implicitDefEqProofs only [go_sem, seval, hx1, getO_ext hx1]
 obtain rfl := sI h
 refine X_ret ?_
 simp -implicitDefEqProofs only [go_sem, seval, hx1, getO_ext hx1]
 exact Rt.mv1 (BaseR.refl hob) (by simp) (vS)
end Go.Pf
end
section
set_option maxRecDepth 100000
namespace Go.Pf
open Go Go.Ab Go.Pp Go.Proofs Go.Proofs.S04
attribute [local go_sem] Lxτ Lxγ gam0 Int.toNat_natCast tau3 tau28 eI eB eS e_Ins e_Block e_Func e_Prog e_code_writer e_code_reader e_Edge
set_option maxHeartbeats 1000000 in
theorem slices_IndexFunc_int_ok (γ : GT) (ob : OT) {a0 : List Int} {v0 : V} {a1 : Int → Option (Bool)} {w1 : V} (hv0 : rdK (getO ob) 1 v0 = some (List.map (eI .i64) a0)) (hf1 : ∀ (ob1 : OT), ob <+: ob1 → ∀ (y0 : Int) (r : Bool), a1 y0 = some r → FnV (Lx γ) w1 [vint .i64 y0] ob1 (vbool r) ob1) {r : Int} (h : slices_IndexFunc_int a0 a1 = some r) :
  Valid (Lx γ) 77 [v0, w1] ob (vint .i64 r) ob := by
 refine valid_X (lx_ok γ) (fn := Tryd.f77) (rs := [.tmp 4]) Tryd.func77 (by kernel_rfl) rfl rfl Tryd.ntmps77 rfl (by simp) fun hb hob => ?_
 have hq := rd4 hv0
 rw [slices_IndexFunc_int] at h
 refine X_sr (lx_ok γ) ?_
 simp -implicitDefEqProofs only [go_sem, seval, hq]
 refine X_seq ?_
 refine X_sr (lx_ok γ) ?_
 simp -implicitDefEqProofs only [go_sem, seval, hq]
 refine X_jq (J := fun as1 ob1 => slices_IndexFunc_int.k1 = some r ∧ [] = as1 ∧ ob = ob1) ?_ ?_
 ·rintro as1 ob1 ⟨h, rfl, rfl⟩
  rw [slices_IndexFunc_int.k1] at h
  simp -implicitDefEqProofs only [go_sem, seval, hq]
  refine X_sr (lx_ok γ) ?_
  simp -implicitDefEqProofs only [go_sem, seval, hq]
  obtain rfl := sI h
  refine X_ret ?_
  simp -implicitDefEqProofs only [go_sem, seval, hq]
  exact Rt.mv1 (BaseR.refl hob) (by simp) (vS)
 ·refine X_block ?_
  obtain ⟨lr1, hl1, hk1, hr1⟩ := aft2 h
  refine X_forN hl1 (fun (i1 : Nat) (s : Unit) as1 ob1 => [(0, v0), (1, w1), (7, vint .i64 (List.length a0 : Int)), (8, vint .i64 (i1 : Int))] = as1 ∧ ob = ob1) ⟨_, _, ?_, rfl, rfl⟩ ?_ ?_
  ·exact To.mv1 (BaseR.refl hob) (by simp) (by simp only [go_sem]; exact ⟨VM.self (by simpa using Bd.of_rdK hv0), VM.self (by simpa using hb w1 (by simp)), vS, VM.eqv (by simp) (by simp)⟩)
  ·rintro i1 _ o1 hi1 hw1 h ho1 as1 ob1 ⟨rfl, rfl⟩
   rw [slices_IndexFunc_int.b1] at h
   refine X_sr (lx_ok γ) ?_
   simp -implicitDefEqProofs only [go_sem, seval, hi1, hq]
   refine X_seq ?_
   refine X_cond (lx_ok γ) ?_
   simp -implicitDefEqProofs only [go_sem, seval, hi1, hq]
   refine X_skip ?_
   try simp -implicitDefEqProofs only [go_sem]
   refine X_seq ?_
   refine X_block ?_
   refine X_sr (lx_ok γ) ?_
   simp -implicitDefEqProofs only [go_sem, seval, hi1, hq]
   refine X_sr (lx_ok γ) ?_
   obtain ⟨x2, f1, h⟩ := bindE h
   obtain ⟨f2, f3⟩ := ixL_nat f1
   have f4 : (0 : Int) ≤ (i1 : Int) := Int.natCast_nonneg _
   obtain ⟨x3, f5, h⟩ := bindE h
   simp -implicitDefEqProofs only [go_sem, seval, hi1, hq, f2, f3, f4]
   refine callV_fn (hf1 _ List.prefix_rfl _ _ f5) rfl rfl ?_
   simp -implicitDefEqProofs only [go_sem, seval, hi1, hq, f2, f3, f4]
   cases f6 : x3
   ·rw [if_neg (nF f6)] at h
    refine X_cond (lx_ok γ) ?_
    simp -implicitDefEqProofs only [go_sem, seval, hi1, f6, hq, f2, f3, f4]
    refine X_skip ?_
    try simp -implicitDefEqProofs only [go_sem]
    refine X_reg (lx_ok γ) ?_
    obtain rfl := sI h
    simp -implicitDefEqProofs only [go_sem, seval, hi1, f6, hq]
    refine kR_in rfl ?_ ⟨rfl, rfl⟩
    exact To.mv1 (BaseR.refl hob) (by simp) (by simp only [go_sem]; exact ⟨VM.self (by simpa using Bd.of_rdK hv0), VM.self (by simpa using hb w1 (by simp)), vS, VM.eqv (by rw [hw1]) (by simp)⟩)
   ·rw [if_pos f6] at h
    refine X_cond (lx_ok γ) ?_
    simp -implicitDefEqProofs only [go_sem, seval, hi1, f6, hq, f2, f3, f4]
    refine X_sr (lx_ok γ) ?_
    simp -implicitDefEqProofs only [go_sem, seval, hi1, f6, hq]
    obtain rfl := sI h
    have h := hr1 _ (ho1 (fun _ hs => nomatch hs))
    obtain rfl := sI h
    refine X_ret ?_
    simp -implicitDefEqProofs only [go_sem, seval, hi1, f6, hq]
    exact Rt.mv1 (BaseR.refl hob) (by simp) (vS)
  ·rintro i1 _ hi1 hn1 as1 ob1 ⟨rfl, rfl⟩
   refine X_sr (lx_ok γ) ?_
   simp -implicitDefEqProofs only [go_sem, seval, hi1, hq]
   refine X_seq ?_
   refine X_cond (lx_ok γ) ?_
   simp -implicitDefEqProofs only [go_sem, seval, hi1, hq]
   have h := hk1 _ (.inl hn1)
   refine X_exit ?_
   try simp -implicitDefEqProofs only [go_sem, ↓reduceIte, Nat.reduceEqDiff, reduceCtorEq]
   refine kJ_in ?_ ⟨h, rfl, rfl⟩
   exact To.mv1 (BaseR.refl hob) (by simp) trivial
end Go.Pf
end
section
set_option maxRecDepth 100000
namespace Go.Pf
open Go Go.Ab Go.Pp Go.Proofs Go.Proofs.S04
attribute [local go_sem] Lxτ Lxγ gam0 Int.toNat_natCast tau3 tau28 tau39 eI eB eS e_Ins e_Block e_Func e_Prog e_code_writer e_code_reader e_Edge
set_option maxHeartbeats 1000000 in
theorem slices_ContainsFunc_int_ok (γ : GT) (ob : OT) {a0 : List Int} {v0 : V} {a1 : Int → Option (Bool)} {w1 : V} (hv0 : rdK (getO ob) 1 v0 = some (List.map (eI .i64) a0)) (hf1 : ∀ (ob1 : OT), ob <+: ob1 → ∀ (y0 : Int) (r : Bool), a1 y0 = some r → FnV (Lx γ) w1 [vint .i64 y0] ob1 (vbool r) ob1) {r : Bool} (h : slices_ContainsFunc_int a0 a1 = some r) :
  Valid (Lx γ) 51 [v0, w1] ob (vbool r) ob := by
 refine valid_X (lx_ok γ) (fn := Tryd.f51) (rs := [.tmp 4]) Tryd.func51 (by kernel_rfl) rfl rfl Tryd.ntmps51 rfl (by simp) fun hb hob => ?_
 have hq := rd4 hv0
 rw [slices_ContainsFunc_int] at h
 refine X_sr (lx_ok γ) ?_
 simp -implicitDefEqProofs only [go_sem, seval, hq]
 refine X_sr (lx_ok γ) ?_
 obtain ⟨x1, f1, h⟩ := bindE h
 simp -implicitDefEqProofs only [go_sem, seval, hq]
 refine callV_eq (slices_IndexFunc_int_ok γ _ (by first | exact rdK_app hv0 | exact hv0) hf1 f1) rfl rfl ?_
 simp -implicitDefEqProofs only [go_sem, seval, hq]
 obtain rfl := sI h
 refine X_ret ?_
 simp -implicitDefEqProofs only [go_sem, seval, hq]
 exact Rt.mv1 (BaseR.refl hob) (by simp) (vS)
end Go.Pf
end
section
set_option maxRecDepth 100000
namespace Go.Pf
open Go Go.Ab Go.Pp Go.Proofs Go.Proofs.S04
attribute [local go_sem] Lxτ Lxγ gam0 Int.toNat_natCast List.append_eq List.cons_append List.nil_append tau3 tau4 tau9 tau22 tau24 tau28 tau29 tau31 tau35 tau39 tau42 tau44 eI eB eS e_Ins e_Block e_Func e_Prog e_code_writer e_code_reader e_Edge
set_option maxHeartbeats 1000000 in
theorem shape_Ins_ok (γ : GT) (ob : OT) {a0 : Prog} {v0_0 : V} {a1 : Int} {a2 : Ins} {v2_6 : V} (hv0_0 : rdK (getO ob) 5 v0_0 = some (List.map e_Func a0.Funcs)) (hv2_6 : rdK (getO ob) 1 v2_6 = some (List.map (eI .i64) a2.Args)) {r : Bool} (h : shape_Ins a0 a1 a2 = some r) :
  Valid (Lx γ) 17 [V.agg [v0_0], vint .i64 a1, V.agg [vint .i64 a2.Op, vint .i64 a2.D, vint .i64 a2.A, vint .i64 a2.B, vint .i64 a2.N, vint .i64 a2.M, v2_6]] ob (vbool r) ob := by
 refine valid_X (lx_ok γ) (fn := Tryd.f17) (rs := [.tmp 6]) Tryd.func17 (by kernel_rfl) rfl rfl Tryd.ntmps17 rfl (by simp) fun hb hob => ?_
 have hq := And.intro (rd4 hv0_0) (rd4 hv2_6)
 rw [shape_Ins] at h
 refine X_sr (lx_ok γ) ?_
 simp -implicitDefEqProofs only [go_sem, seval, hq]
 refine X_seq ?_
 refine X_seq ?_
 refine X_jq (J := fun as1 ob1 => ∃ (x2 : Bool), shape_Ins.j1 a0 a1 a2 x2 = some r ∧ [(1, vint .i64 a1), (3, V.ref ob.length 0), (5, V.ref (ob.length + 1) 0), (36, vbool x2)] = as1 ∧ ob ++ [some (O.box [v0_0]), some (O.box [vint .i64 a2.Op, vint .i64 a2.D, vint .i64 a2.A, vint .i64 a2.B, vint .i64 a2.N, vint .i64 a2.M, v2_6])] = ob1) ?_ ?_
 ·rintro as1 ob1 ⟨x2, h, rfl, rfl⟩
  rw [shape_Ins.j1] at h
  simp -implicitDefEqProofs only [go_sem, seval, hq]
  cases f1 : x2
  ·rw [if_neg (nF f1)] at h
   refine X_cond (lx_ok γ) ?_
   simp -implicitDefEqProofs only [go_sem, seval, f1, hq]
   refine X_skip ?_
   try simp -implicitDefEqProofs only [go_sem]
   refine X_sr (lx_ok γ) ?_
   obtain ⟨x3, f2, h⟩ := bindE h
   obtain ⟨f3, f4, f5⟩ := ixL_some f2
   try simp only [Int.toNat_natCast, Int.reduceToNat] at f5
   simp -implicitDefEqProofs only [go_sem, seval, f1, hq, f3, f4, f5]
   refine X_sr (lx_ok γ) ?_
   obtain ⟨x4, f6, h⟩ := bindE h
   simp -implicitDefEqProofs only [go_sem, seval, f1, hq]
   refine callV_eq (shape_Uses_ok γ _ (by first | exact rdK_app hv2_6 | exact hv2_6) f6) rfl rfl ?_
   simp -implicitDefEqProofs only [go_sem, seval, f1, hq]
   refine X_seq ?_
   refine X_jq (J := fun as1 ob1 => ∃ (x5 : List Int), shape_Ins.j2 a2 x3 x5 = some r ∧ [(5, V.ref ob.length 0), (7, V.ref (ob.length + 1) 0), (8, V.row (ob.length + 2) 0 0 (List.length x5))] = as1 ∧ ob ++ [some (O.box [vint .i64 a2.Op, vint .i64 a2.D, vint .i64 a2.A, vint .i64 a2.B, vint .i64 a2.N, vint .i64 a2.M, v2_6]), some (O.box [V.tr (.sl 1 false (List.map (eI .i64) x3.Kinds)), V.tr (.sl 1 false (List.map (eI .i64) x3.Base)), vint .i64 x3.Params, vint .i64 x3.Result, V.tr (.sl 1 false (List.map e_Block x3.Blocks))]), some (O.row 1 0 (List.map (eI .i64) x5))] = ob1) ?_ ?_
   ·rintro as1 ob1 ⟨x5, h, rfl, rfl⟩
    rw [shape_Ins.j2] at h
    simp -implicitDefEqProofs only [go_sem, seval, f1, hq]
    refine X_sr (lx_ok γ) ?_
    simp -implicitDefEqProofs only [go_sem, seval, f1, hq]
    refine X_sr (lx_ok γ) ?_
    simp -implicitDefEqProofs only [go_sem, seval, f1, hq]
    refine X_sr (lx_ok γ) ?_
    obtain ⟨x6, f7, h⟩ := bindE h
    simp -implicitDefEqProofs only [go_sem, seval, f1, hq]
    refine callV_eq (slices_ContainsFunc_int_ok γ _ (by simp -implicitDefEqProofs only [go_sem, seval, f1, hq]; try rfl) (fun ob1 hp y0 r hx => by obtain ⟨l, rfl⟩ := hp; exact shape_Ins_1_ok γ _ (by simp -implicitDefEqProofs only [go_sem, seval, f1, hq]; try rfl) hx) f7) rfl rfl ?_
    cases f8 : x6
    ·rw [if_neg (nF f8)] at h
     obtain ⟨x7, f9, h⟩ := bindE h
     simp -implicitDefEqProofs only [go_sem, seval, f1, f8, hq]
     refine callV_eq (shape_Next_ok γ _ (by first | exact rdK_app hv2_6 | exact hv2_6) f9) rfl rfl ?_
     obtain ⟨x8, f10, h⟩ := bindE h
     simp -implicitDefEqProofs only [go_sem, seval, f1, f8, hq]
     refine callV_eq (slices_ContainsFunc_int_ok γ _ (by simp -implicitDefEqProofs only [go_sem, seval, f1, f8, hq]; try rfl) (fun ob1 hp y0 r hx => by obtain ⟨l, rfl⟩ := hp; exact shape_Ins_2_ok γ _ (by simp -implicitDefEqProofs only [go_sem, seval, f1, f8, hq]; try rfl) hx) f10) rfl rfl ?_
     simp -implicitDefEqProofs only [go_sem, seval, f1, f8, hq]
     obtain rfl := sI h
     refine X_ret ?_
     simp -implicitDefEqProofs only [go_sem, seval, f1, f8, hq]
     exact Rt.mv0 (BaseR.refl hob) (by simp) (vS)
    ·rw [if_pos f8] at h
     simp -implicitDefEqProofs only [go_sem, seval, f1, f8, hq]
     obtain rfl := sI h
     refine X_ret ?_
     simp -implicitDefEqProofs only [go_sem, seval, f1, f8, hq]
     exact Rt.mv0 (BaseR.refl hob) (by simp) (vS)
   ·refine X_sr (lx_ok γ) ?_
    obtain ⟨x9, f11, h⟩ := bindE h
    simp -implicitDefEqProofs only [go_sem, seval, f1, hq]
    refine callV_eq (shape_Sets_ok γ _ (by first | exact rdK_app hv2_6 | exact hv2_6) f11) rfl rfl ?_
    simp -implicitDefEqProofs only [go_sem, seval, f1, hq]
    refine X_sr (lx_ok γ) ?_
    simp -implicitDefEqProofs only [go_sem, seval, f1, hq]
    cases f12 : x9.2
    ·rw [if_neg (nF f12)] at h
     refine X_cond (lx_ok γ) ?_
     simp -implicitDefEqProofs only [go_sem, seval, f1, f12, hq]
     refine X_skip ?_
     try simp -implicitDefEqProofs only [go_sem]
     refine kJ_in ?_ ⟨x4, h, rfl, rfl⟩
     exact To.mv [(1, 0), (2, 0), (3, 0)] (BaseR.refl hob) (by simp) (by decide) (by simp only [go_sem]; exact ⟨VM.refA (j := 1) (t := 0) rfl, VM.refA (j := 2) (t := 1) rfl, VM.rowL (j := 3) (t := 2) rfl (by first | rfl | simp | simp_all | omega)⟩) ⟨⟨_, rfl, OM.box _ _ ⟨vS, vS, vS, vS, vS, vS, VM.self (by simpa using Bd.of_rdK hv2_6), trivial⟩⟩, ⟨_, rfl, OM.box _ _ ⟨vS, vS, vS, vS, vS, trivial⟩⟩, ⟨_, rfl, OM.row' (by first | rfl | simp_all)⟩, trivial⟩
    ·rw [if_pos f12] at h
     refine X_cond (lx_ok γ) ?_
     simp -implicitDefEqProofs only [go_sem, seval, f1, f12, hq]
     refine X_reg (lx_ok γ) ?_
     obtain ⟨x10, f13, h⟩ := bindE h
     have f14 : List.length x10 * 8 ≤ 140737488355328 := by have := (appL_some f13).1; rw [(appL_some f13).2]; simpa using this
     have f15 : List.map (eI .i64) x4 ++ [[.lit (.int .i64 x9.1)]] = List.map (eI .i64) x10 := by rw [(appL_some f13).2]; simp [eB, eI, eS]
     have f16 : List.length x4 + 1 = List.length x10 := by rw [(appL_some f13).2]; simp
     simp -implicitDefEqProofs only [go_sem, seval, f1, f12, hq, f14, f15, f16]
     refine kJ_in ?_ ⟨x10, h, rfl, rfl⟩
     exact To.mv [(1, 0), (2, 0), (3, 1)] (BaseR.refl hob) (by simp) (by decide) (by simp only [go_sem]; exact ⟨VM.refA (j := 1) (t := 0) rfl, VM.refA (j := 2) (t := 1) rfl, VM.rowL (j := 3) (t := 2) rfl (by first | rfl | simp | simp_all | omega)⟩) ⟨⟨_, rfl, OM.box _ _ ⟨vS, vS, vS, vS, vS, vS, VM.self (by simpa using Bd.of_rdK hv2_6), trivial⟩⟩, ⟨_, rfl, OM.box _ _ ⟨vS, vS, vS, vS, vS, trivial⟩⟩, ⟨_, rfl, OM.row' (by first | rfl | simp_all)⟩, trivial⟩
  ·rw [if_pos f1] at h
   refine X_cond (lx_ok γ) ?_
   simp -implicitDefEqProofs only [go_sem, seval, f1, hq]
   refine X_sr (lx_ok γ) ?_
   simp -implicitDefEqProofs only [go_sem, seval, f1, hq]
   obtain rfl := sI h
   refine X_ret ?_
   simp -implicitDefEqProofs only [go_sem, seval, f1, hq]
   exact Rt.mv0 (BaseR.refl hob) (by simp) (vS)
 ·refine X_reg (lx_ok γ) ?_
  obtain ⟨x11, f17, h⟩ := bindE h
  simp -implicitDefEqProofs only [go_sem, seval, hq]
  refine callV_eq (shape_within_ok γ _  f17) rfl rfl ?_
  cases f18 : x11
  ·rw [if_neg (nF f18)] at h
   simp -implicitDefEqProofs only [go_sem, seval, f18, hq]
   refine kJ_in ?_ ⟨true, h, rfl, rfl⟩
   exact To.mv [(0, 0), (1, 0)] (BaseR.refl hob) (by simp) (by decide) (by simp only [go_sem]; exact ⟨vS, VM.refA (j := 0) (t := 0) rfl, VM.refA (j := 1) (t := 1) rfl, vS⟩) ⟨⟨_, rfl, OM.box _ _ ⟨VM.self (by simpa using Bd.of_rdK hv0_0), trivial⟩⟩, ⟨_, rfl, OM.box _ _ ⟨vS, vS, vS, vS, vS, vS, VM.self (by simpa using Bd.of_rdK hv2_6), trivial⟩⟩, trivial⟩
  ·rw [if_pos f18] at h
   obtain ⟨x12, f19, h⟩ := bindE h
   simp -implicitDefEqProofs only [go_sem, seval, f18, hq]
   refine callV_eq (code_Parts_ok γ _  f19) rfl rfl ?_
   cases f20 : (ByteArray.toList x12 == ByteArray.toList ({ data := #[] } : ByteArray))
   ·rw [if_neg (nF f20)] at h
    obtain ⟨x13, f21, h⟩ := bindE h
    simp -implicitDefEqProofs only [go_sem, seval, f18, f20, hq]
    refine callV_eq (shape_bare_ok γ _ (by first | exact rdK_app hv2_6 | exact hv2_6) f21) rfl rfl ?_
    cases f22 : x13
    ·rw [if_neg (nF f22)] at h
     simp -implicitDefEqProofs only [go_sem, seval, f18, f20, f22, hq]
     refine kJ_in ?_ ⟨true, h, rfl, rfl⟩
     exact To.mv [(0, 0), (1, 0)] (BaseR.refl hob) (by simp) (by decide) (by simp only [go_sem]; exact ⟨vS, VM.refA (j := 0) (t := 0) rfl, VM.refA (j := 1) (t := 1) rfl, vS⟩) ⟨⟨_, rfl, OM.box _ _ ⟨VM.self (by simpa using Bd.of_rdK hv0_0), trivial⟩⟩, ⟨_, rfl, OM.box _ _ ⟨vS, vS, vS, vS, vS, vS, VM.self (by simpa using Bd.of_rdK hv2_6), trivial⟩⟩, trivial⟩
    ·rw [if_pos f22] at h
     obtain ⟨x14, f23, h⟩ := bindE h
     simp -implicitDefEqProofs only [go_sem, seval, f18, f20, f22, hq]
     refine callV_eq (shape_numbers_ok γ _ (by first | exact rdK_app hv0_0 | exact hv0_0) (by first | exact rdK_app hv2_6 | exact hv2_6) f23) rfl rfl ?_
     simp -implicitDefEqProofs only [go_sem, seval, f18, f20, f22, hq]
     refine kJ_in ?_ ⟨(!x14), h, rfl, rfl⟩
     exact To.mv [(0, 0), (1, 0)] (BaseR.refl hob) (by simp) (by decide) (by simp only [go_sem]; exact ⟨vS, VM.refA (j := 0) (t := 0) rfl, VM.refA (j := 1) (t := 1) rfl, vS⟩) ⟨⟨_, rfl, OM.box _ _ ⟨VM.self (by simpa using Bd.of_rdK hv0_0), trivial⟩⟩, ⟨_, rfl, OM.box _ _ ⟨vS, vS, vS, vS, vS, vS, VM.self (by simpa using Bd.of_rdK hv2_6), trivial⟩⟩, trivial⟩
   ·rw [if_pos f20] at h
    simp -implicitDefEqProofs only [go_sem, seval, f18, f20, hq]
    refine kJ_in ?_ ⟨true, h, rfl, rfl⟩
    exact To.mv [(0, 0), (1, 0)] (BaseR.refl hob) (by simp) (by decide) (by simp only [go_sem]; exact ⟨vS, VM.refA (j := 0) (t := 0) rfl, VM.refA (j := 1) (t := 1) rfl, vS⟩) ⟨⟨_, rfl, OM.box _ _ ⟨VM.self (by simpa using Bd.of_rdK hv0_0), trivial⟩⟩, ⟨_, rfl, OM.box _ _ ⟨vS, vS, vS, vS, vS, vS, VM.self (by simpa using Bd.of_rdK hv2_6), trivial⟩⟩, trivial⟩
end Go.Pf
end
section
set_option maxRecDepth 100000
namespace Go.Pf
open Go Go.Ab Go.Pp Go.Proofs Go.Proofs.S04
attribute [local go_sem] Lxτ Lxγ gam0 Int.toNat_natCast tau3 tau4 tau22 tau24 tau28 tau29 tau31 tau35 tau42 tau44 eI eB eS e_Ins e_Block e_Func e_Prog e_code_writer e_code_reader e_Edge
set_option maxHeartbeats 1000000 in
theorem shape_Check_1_ok (γ : GT) (ob : OT) {a0 : Ins} {v0_6 : V} {o1 : Nat} {a1 : Prog} {o2 : Nat} {a2 : Int} (hv0_6 : rdK (getO ob) 1 v0_6 = some (List.map (eI .i64) a0.Args)) (hx1 : getO ob o1 = some (O.box [V.tr (.sl 5 false (List.map e_Func a1.Funcs))])) (hx2 : getO ob o2 = some (O.box [vint .i64 a2])) {r : Bool} (h : shape_Check_1 a0 a1 a2 = some r) :
  Valid (Lx γ) 43 [V.agg [vint .i64 a0.Op, vint .i64 a0.D, vint .i64 a0.A, vint .i64 a0.B, vint .i64 a0.N, vint .i64 a0.M, v0_6], V.ref o1 0, V.ref o2 0] ob (vbool r) ob := by
 refine valid_X (lx_ok γ) (fn := Tryd.f43) (rs := [.tmp 4]) Tryd.func43 (by kernel_rfl) rfl rfl Tryd.ntmps43 rfl (by simp) fun hb hob => ?_
 have hq := rd4 hv0_6
 have hoa1 := getO_lt hx1
 have hoa2 := getO_lt hx2
 rw [shape_Check_1] at h
 refine X_sr (lx_ok γ) ?_
 simp -implicitDefEqProofs only [go_sem, seval, hq, hx1, hx2, getO_ext hx1, getO_ext hx2]
 refine X_sr (lx_ok γ) ?_
 obtain ⟨x1, f1, h⟩ := bindE h
 simp -implicitDefEqProofs only [go_sem, seval, hq, hx1, hx2, getO_ext hx1, getO_ext hx2]
 refine callV_eq (shape_Ins_ok γ _ (by simp -implicitDefEqProofs only [go_sem, seval, hq, hx1, hx2, getO_ext hx1, getO_ext hx2]; try rfl) (by first | exact rdK_app hv0_6 | exact hv0_6) f1) rfl rfl ?_
 simp -implicitDefEqProofs only [go_sem, seval, hq, hx1, hx2, getO_ext hx1, getO_ext hx2]
 obtain rfl := sI h
 refine X_ret ?_
 simp -implicitDefEqProofs only [go_sem, seval, hq, hx1, hx2, getO_ext hx1, getO_ext hx2]
 exact Rt.mv0 (BaseR.refl hob) (by simp) (vS)
end Go.Pf
end
section
set_option maxRecDepth 100000
namespace Go.Pf
open Go Go.Ab Go.Pp Go.Proofs Go.Proofs.S04
attribute [local go_sem] Lxτ Lxγ gam0 Int.toNat_natCast tau3 tau4 tau22 tau24 tau28 tau29 tau31 tau35 tau42 tau44 tau61 eI eB eS e_Ins e_Block e_Func e_Prog e_code_writer e_code_reader e_Edge
set_option maxHeartbeats 1000000 in
theorem shape_Check_ok (γ : GT) (ob : OT) {a0 : Prog} {r : Int} (h : shape_Check a0 = some r) :
  Valid (Lx γ) 13 [V.agg [V.tr (.sl 5 false (List.map e_Func a0.Funcs))]] ob (vint .i64 r) ob := by
 refine valid_X (lx_ok γ) (fn := Tryd.f13) (rs := [.tmp 2]) Tryd.func13 (by kernel_rfl) rfl rfl Tryd.ntmps13 rfl (by simp) fun hb hob => ?_
 rw [shape_Check] at h
 refine X_sr (lx_ok γ) ?_
 simp -implicitDefEqProofs only [go_sem, seval]
 refine X_seq ?_
 refine X_seq ?_
 refine X_jq (J := fun as1 ob1 => ∃ (x2 : Bool), shape_Check.j1 a0 x2 = some r ∧ [(1, V.ref ob.length 0), (27, vbool x2)] = as1 ∧ ob ++ [some (O.box [V.tr (.sl 5 false (List.map e_Func a0.Funcs))])] = ob1) ?_ ?_
 ·rintro as1 ob1 ⟨x2, h, rfl, rfl⟩
  rw [shape_Check.j1] at h
  simp -implicitDefEqProofs only [go_sem, seval]
  cases f1 : x2
  ·rw [if_neg (nF f1)] at h
   refine X_cond (lx_ok γ) ?_
   simp -implicitDefEqProofs only [go_sem, seval, f1]
   refine X_skip ?_
   try simp -implicitDefEqProofs only [go_sem]
   refine X_seq ?_
   refine X_sr (lx_ok γ) ?_
   simp -implicitDefEqProofs only [go_sem, seval, f1]
   refine X_jq (J := fun as1 ob1 => shape_Check.k1 = some r ∧ [] = as1 ∧ ob = ob1) ?_ ?_
   ·rintro as1 ob1 ⟨h, rfl, rfl⟩
    rw [shape_Check.k1] at h
    simp -implicitDefEqProofs only [go_sem, seval, f1]
    refine X_sr (lx_ok γ) ?_
    simp -implicitDefEqProofs only [go_sem, seval, f1]
    obtain rfl := sI h
    refine X_ret ?_
    simp -implicitDefEqProofs only [go_sem, seval, f1]
    exact Rt.mv1 (BaseR.refl hob) (by simp) (vS)
   ·refine X_block ?_
    obtain ⟨lr1, hl1, hk1, hr1⟩ := aft2 h
    refine X_forN hl1 (fun (i1 : Nat) (s : Unit) as1 ob1 => [(1, V.ref ob.length 0), (29, V.tr (.sl 5 false (List.map e_Func a0.Funcs))), (30, vint .i64 (List.length a0.Funcs : Int)), (31, vint .i64 (i1 : Int))] = as1 ∧ ob ++ [some (O.box [V.tr (.sl 5 false (List.map e_Func a0.Funcs))])] = ob1) ⟨_, _, ?_, rfl, rfl⟩ ?_ ?_
    ·exact To.mv [(0, 0)] (BaseR.refl hob) (by simp) (by decide) (by simp only [go_sem]; exact ⟨VM.refA (j := 0) (t := 0) rfl, vS, vS, VM.eqv (by simp) (by simp)⟩) ⟨⟨_, rfl, OM.box _ _ ⟨vS, trivial⟩⟩, trivial⟩
    ·rintro i1 _ o1 hi1 hw1 h ho1 as1 ob1 ⟨rfl, rfl⟩
     rw [shape_Check.b1] at h
     refine X_sr (lx_ok γ) ?_
     simp -implicitDefEqProofs only [go_sem, seval, f1, hi1]
     refine X_seq ?_
     refine X_cond (lx_ok γ) ?_
     simp -implicitDefEqProofs only [go_sem, seval, f1, hi1]
     refine X_skip ?_
     try simp -implicitDefEqProofs only [go_sem]
     refine X_seq ?_
     refine X_block ?_
     refine X_sr (lx_ok γ) ?_
     obtain ⟨x4, f2, h⟩ := bindE h
     obtain ⟨f3, f4⟩ := ixL_nat f2
     have f5 : (0 : Int) ≤ (i1 : Int) := Int.natCast_nonneg _
     simp -implicitDefEqProofs only [go_sem, seval, f1, hi1, f3, f4, f5]
     refine X_seq ?_
     refine X_sr (lx_ok γ) ?_
     obtain ⟨x5, f6, h⟩ := bindE h
     simp -implicitDefEqProofs only [go_sem, seval, f1, hi1]
     refine callV_eq (shape_Func_ok γ _  f6) rfl rfl ?_
     simp -implicitDefEqProofs only [go_sem, seval, f1, hi1]
     cases f7 : x5
     ·rw [if_neg (nF f7)] at h
      refine X_cond (lx_ok γ) ?_
      simp -implicitDefEqProofs only [go_sem, seval, f1, hi1, f7]
      refine X_sr (lx_ok γ) ?_
      simp -implicitDefEqProofs only [go_sem, seval, f1, hi1, f7]
      obtain rfl := sI h
      have h := hr1 _ (ho1 (fun _ hs => nomatch hs))
      obtain rfl := sI h
      refine X_ret ?_
      simp -implicitDefEqProofs only [go_sem, seval, f1, hi1, f7]
      exact Rt.mv0 (BaseR.refl hob) (by simp) (vS)
     ·rw [if_pos f7] at h
      refine X_cond (lx_ok γ) ?_
      simp -implicitDefEqProofs only [go_sem, seval, f1, hi1, f7]
      refine X_skip ?_
      try simp -implicitDefEqProofs only [go_sem]
      refine X_sr (lx_ok γ) ?_
      simp -implicitDefEqProofs only [go_sem, seval, f1, hi1, f7]
      refine X_jq (J := fun as1 ob1 => shape_Check.k2 = some o1 ∧ [(1, V.ref ob.length 0), (29, V.tr (.sl 5 false (List.map e_Func a0.Funcs))), (30, vint .i64 (List.length a0.Funcs : Int)), (31, vint .i64 (i1 : Int))] = as1 ∧ ob ++ [some (O.box [V.tr (.sl 5 false (List.map e_Func a0.Funcs))])] = ob1) ?_ ?_
      ·rintro as1 ob1 ⟨h, rfl, rfl⟩
       rw [shape_Check.k2] at h
       simp -implicitDefEqProofs only [go_sem, seval, f1, hi1, f7]
       refine X_reg (lx_ok γ) ?_
       obtain rfl := sI h
       simp -implicitDefEqProofs only [go_sem, seval, f1, hi1, f7]
       refine kR_in rfl ?_ ⟨rfl, rfl⟩
       exact To.mv [(0, 0)] (BaseR.refl hob) (by simp) (by decide) (by simp only [go_sem]; exact ⟨VM.refA (j := 0) (t := 0) rfl, vS, vS, VM.eqv (by rw [hw1]) (by simp)⟩) ⟨⟨_, rfl, OM.box _ _ ⟨vS, trivial⟩⟩, trivial⟩
      ·refine X_block ?_
       obtain ⟨lr2, hl2, hk2, hr2⟩ := aft2 h
       refine X_forN hl2 (fun (i2 : Nat) (s : Unit) as1 ob1 => [(1, V.ref ob.length 0), (3, V.ref (ob.length + 1) 0), (29, V.tr (.sl 5 false (List.map e_Func a0.Funcs))), (30, vint .i64 (List.length a0.Funcs : Int)), (31, vint .i64 (i1 : Int)), (40, V.tr (.sl 1 false (List.map e_Block x4.Blocks))), (41, vint .i64 (List.length x4.Blocks : Int)), (42, vint .i64 (i2 : Int))] = as1 ∧ ob ++ [some (O.box [V.tr (.sl 5 false (List.map e_Func a0.Funcs))]), some (O.box [vint .i64 (i1 : Int)])] = ob1) ⟨_, _, ?_, rfl, rfl⟩ ?_ ?_
       ·exact To.mv [(0, 0), (1, 0)] (BaseR.refl hob) (by simp) (by decide) (by simp only [go_sem]; exact ⟨VM.refA (j := 0) (t := 0) rfl, VM.refA (j := 1) (t := 1) rfl, vS, vS, vS, vS, vS, VM.eqv (by simp) (by simp)⟩) ⟨⟨_, rfl, OM.box _ _ ⟨vS, trivial⟩⟩, ⟨_, rfl, OM.box _ _ ⟨vS, trivial⟩⟩, trivial⟩
       ·rintro i2 _ o2 hi2 hw2 h ho2 as1 ob1 ⟨rfl, rfl⟩
        rw [shape_Check.b2] at h
        refine X_sr (lx_ok γ) ?_
        simp -implicitDefEqProofs only [go_sem, seval, f1, hi1, f7, hi2]
        refine X_seq ?_
        refine X_cond (lx_ok γ) ?_
        simp -implicitDefEqProofs only [go_sem, seval, f1, hi1, f7, hi2]
        refine X_skip ?_
        try simp -implicitDefEqProofs only [go_sem]
        refine X_seq ?_
        refine X_block ?_
        refine X_sr (lx_ok γ) ?_
        obtain ⟨x7, f8, h⟩ := bindE h
        obtain ⟨f9, f10⟩ := ixL_nat f8
        have f11 : (0 : Int) ≤ (i2 : Int) := Int.natCast_nonneg _
        simp -implicitDefEqProofs only [go_sem, seval, f1, hi1, f7, hi2, f9, f10, f11]
        refine X_sr (lx_ok γ) ?_
        obtain ⟨x8, f12, h⟩ := bindE h
        simp -implicitDefEqProofs only [go_sem, seval, f1, hi1, f7, hi2]
        refine callV_eq (slices_ContainsFunc_Ins_ok γ _ (by simp -implicitDefEqProofs only [go_sem, seval, f1, hi1, f7, hi2]; try rfl) (fun ob1 hp y0 r hx => by obtain ⟨l, rfl⟩ := hp; exact shape_Check_1_ok γ _ (by simp -implicitDefEqProofs only [go_sem, seval, f1, hi1, f7, hi2]; try rfl) (by simp -implicitDefEqProofs only [go_sem, seval, f1, hi1, f7, hi2]; try rfl) (by simp -implicitDefEqProofs only [go_sem, seval, f1, hi1, f7, hi2]; try rfl) hx) f12) rfl rfl ?_
        simp -implicitDefEqProofs only [go_sem, seval, f1, hi1, f7, hi2]
        cases f13 : x8
        ·rw [if_neg (nF f13)] at h
         refine X_cond (lx_ok γ) ?_
         simp -implicitDefEqProofs only [go_sem, seval, f1, hi1, f7, hi2, f13]
         refine X_skip ?_
         try simp -implicitDefEqProofs only [go_sem]
         refine X_reg (lx_ok γ) ?_
         obtain rfl := sI h
         simp -implicitDefEqProofs only [go_sem, seval, f1, hi1, f7, hi2, f13]
         refine kR_in rfl ?_ ⟨rfl, rfl⟩
         exact To.mv [(0, 0), (1, 0)] (BaseR.refl hob) (by simp) (by decide) (by simp only [go_sem]; exact ⟨VM.refA (j := 0) (t := 0) rfl, VM.refA (j := 1) (t := 1) rfl, vS, vS, vS, vS, vS, VM.eqv (by rw [hw2]) (by simp)⟩) ⟨⟨_, rfl, OM.box _ _ ⟨vS, trivial⟩⟩, ⟨_, rfl, OM.box _ _ ⟨vS, trivial⟩⟩, trivial⟩
        ·rw [if_pos f13] at h
         refine X_cond (lx_ok γ) ?_
         simp -implicitDefEqProofs only [go_sem, seval, f1, hi1, f7, hi2, f13]
         refine X_sr (lx_ok γ) ?_
         simp -implicitDefEqProofs only [go_sem, seval, f1, hi1, f7, hi2, f13]
         obtain rfl := sI h
         have h := hr2 _ (ho2 (fun _ hs => nomatch hs))
         obtain rfl := sI h
         have h := hr1 _ (ho1 (fun _ hs => nomatch hs))
         obtain rfl := sI h
         refine X_ret ?_
         simp -implicitDefEqProofs only [go_sem, seval, f1, hi1, f7, hi2, f13]
         exact Rt.mv0 (BaseR.refl hob) (by simp) (vS)
       ·rintro i2 _ hi2 hn2 as1 ob1 ⟨rfl, rfl⟩
        refine X_sr (lx_ok γ) ?_
        simp -implicitDefEqProofs only [go_sem, seval, f1, hi1, f7, hi2]
        refine X_seq ?_
        refine X_cond (lx_ok γ) ?_
        simp -implicitDefEqProofs only [go_sem, seval, f1, hi1, f7, hi2]
        have h := hk2 _ (.inl hn2)
        refine X_exit ?_
        try simp -implicitDefEqProofs only [go_sem, ↓reduceIte, Nat.reduceEqDiff, reduceCtorEq]
        refine kJ_in ?_ ⟨h, rfl, rfl⟩
        exact To.mv [(0, 0)] (BaseR.refl hob) (by simp) (by decide) (by simp only [go_sem]; exact ⟨VM.refA (j := 0) (t := 0) rfl, vS, vS, vS⟩) ⟨⟨_, rfl, OM.box _ _ ⟨vS, trivial⟩⟩, trivial⟩
    ·rintro i1 _ hi1 hn1 as1 ob1 ⟨rfl, rfl⟩
     refine X_sr (lx_ok γ) ?_
     simp -implicitDefEqProofs only [go_sem, seval, f1, hi1]
     refine X_seq ?_
     refine X_cond (lx_ok γ) ?_
     simp -implicitDefEqProofs only [go_sem, seval, f1, hi1]
     have h := hk1 _ (.inl hn1)
     refine X_exit ?_
     try simp -implicitDefEqProofs only [go_sem, ↓reduceIte, Nat.reduceEqDiff, reduceCtorEq]
     refine kJ_in ?_ ⟨h, rfl, rfl⟩
     exact To.mv0 (BaseR.refl hob) (by simp) trivial
  ·rw [if_pos f1] at h
   refine X_cond (lx_ok γ) ?_
   simp -implicitDefEqProofs only [go_sem, seval, f1]
   refine X_sr (lx_ok γ) ?_
   simp -implicitDefEqProofs only [go_sem, seval, f1]
   obtain rfl := sI h
   refine X_ret ?_
   simp -implicitDefEqProofs only [go_sem, seval, f1]
   exact Rt.mv0 (BaseR.refl hob) (by simp) (vS)
 ·refine X_reg (lx_ok γ) ?_
  obtain ⟨x9, f14, h⟩ := bindE h
  simp -implicitDefEqProofs only [go_sem, seval]
  refine callV_eq (shape_within_ok γ _  f14) rfl rfl ?_
  cases f15 : x9
  ·rw [if_neg (nF f15)] at h
   simp -implicitDefEqProofs only [go_sem, seval, f15]
   refine kJ_in ?_ ⟨true, h, rfl, rfl⟩
   exact To.mv [(0, 0)] (BaseR.refl hob) (by simp) (by decide) (by simp only [go_sem]; exact ⟨VM.refA (j := 0) (t := 0) rfl, vS⟩) ⟨⟨_, rfl, OM.box _ _ ⟨vS, trivial⟩⟩, trivial⟩
  ·rw [if_pos f15] at h
   obtain ⟨x10, f16, h⟩ := bindE h
   obtain ⟨f17, f18, f19⟩ := ixL_some f16
   try simp only [Int.toNat_natCast, Int.reduceToNat] at f19
   cases f20 : (x10.Params != 0)
   ·rw [if_neg (nF f20)] at h
    simp -implicitDefEqProofs only [go_sem, seval, f15, f20, f18, f19]
    refine kJ_in ?_ ⟨(x10.Result != 0), h, rfl, rfl⟩
    exact To.mv [(0, 0)] (BaseR.refl hob) (by simp) (by decide) (by simp only [go_sem]; exact ⟨VM.refA (j := 0) (t := 0) rfl, vS⟩) ⟨⟨_, rfl, OM.box _ _ ⟨vS, trivial⟩⟩, trivial⟩
   ·rw [if_pos f20] at h
    simp -implicitDefEqProofs only [go_sem, seval, f15, f20, f18, f19]
    refine kJ_in ?_ ⟨true, h, rfl, rfl⟩
    exact To.mv [(0, 0)] (BaseR.refl hob) (by simp) (by decide) (by simp only [go_sem]; exact ⟨VM.refA (j := 0) (t := 0) rfl, vS⟩) ⟨⟨_, rfl, OM.box _ _ ⟨vS, trivial⟩⟩, trivial⟩
end Go.Pf
end
section
set_option maxRecDepth 100000
namespace Go.Pf
open Go Go.Ab Go.Pp Go.Proofs Go.Proofs.S04
attribute [local go_sem] Lxτ Lxγ gam0 Int.toNat_natCast List.append_eq List.cons_append List.nil_append tau3 tau22 tau24 tau28 tau29 tau31 tau35 tau42 tau44 eI eB eS e_Ins e_Block e_Func e_Prog e_code_writer e_code_reader e_Edge
set_option maxHeartbeats 1000000 in
theorem portolanref03_Great_ok (γ : GT) (ob : OT) {a0 : Prog} {v0_0 : V} (hv0_0 : rdK (getO ob) 5 v0_0 = some (List.map e_Func a0.Funcs)) {r : Bool} (h : portolanref03_Great a0 = some r) :
  Valid (Lx γ) 10 [V.agg [v0_0]] ob (vbool r) ob := by
 refine valid_X (lx_ok γ) (fn := Tryd.f10) (rs := [.tmp 2]) Tryd.func10 (by kernel_rfl) rfl rfl Tryd.ntmps10 rfl (by simp) fun hb hob => ?_
 have hq := rd4 hv0_0
 rw [portolanref03_Great] at h
 refine X_sr (lx_ok γ) ?_
 simp -implicitDefEqProofs only [go_sem, seval, hq]
 refine X_sr (lx_ok γ) ?_
 simp -implicitDefEqProofs only [go_sem, seval, hq]
 refine X_seq ?_
 refine X_sr (lx_ok γ) ?_
 simp -implicitDefEqProofs only [go_sem, seval, hq]
 refine X_jq (J := fun as1 ob1 => ∃ (x1 : Int), portolanref03_Great.k1 x1 = some r ∧ [(3, vint .i64 x1)] = as1 ∧ ob = ob1) ?_ ?_
 ·rintro as1 ob1 ⟨x1, h, rfl, rfl⟩
  rw [portolanref03_Great.k1] at h
  simp -implicitDefEqProofs only [go_sem, seval, hq]
  refine X_sr (lx_ok γ) ?_
  simp -implicitDefEqProofs only [go_sem, seval, hq]
  obtain rfl := sI h
  refine X_ret ?_
  simp -implicitDefEqProofs only [go_sem, seval, hq]
  exact Rt.mv1 (BaseR.refl hob) (by simp) (vS)
 ·refine X_block ?_
  obtain ⟨lr1, hl1, hk1, hr1⟩ := aft2 h
  refine X_forN hl1 (fun (i1 : Nat) (s : Int) as1 ob1 => [(1, V.ref ob.length 0), (3, vint .i64 s), (4, vint .i64 (i1 : Int))] = as1 ∧ ob ++ [some (O.box [v0_0])] = ob1) ⟨_, _, ?_, rfl, rfl⟩ ?_ ?_
  ·exact To.mv [(0, 0)] (BaseR.refl hob) (by simp) (by decide) (by simp only [go_sem]; exact ⟨VM.refA (j := 0) (t := 0) rfl, vS, VM.eqv (by simp) (by simp)⟩) ⟨⟨_, rfl, OM.box _ _ ⟨VM.self (by simpa using Bd.of_rdK hv0_0), trivial⟩⟩, trivial⟩
  ·rintro i1 x1 o1 hi1 hw1 h ho1 as1 ob1 ⟨rfl, rfl⟩
   rw [portolanref03_Great.b1] at h
   refine X_seq ?_
   refine X_sr (lx_ok γ) ?_
   simp -implicitDefEqProofs only [go_sem, seval, hi1, hq]
   cases f1 : decide (x1 ≤ 3000)
   ·rw [if_neg (nF f1)] at h
    refine X_cond (lx_ok γ) ?_
    simp -implicitDefEqProofs only [go_sem, seval, hi1, f1, hq]
    obtain rfl := sI h
    have h := hk1 _ (.inr (ho1 (fun _ hs => nomatch hs)))
    refine X_exit ?_
    try simp -implicitDefEqProofs only [go_sem, ↓reduceIte, Nat.reduceEqDiff, reduceCtorEq]
    refine kJ_in ?_ ⟨x1, h, rfl, rfl⟩
    exact To.mv0 (BaseR.refl hob) (by simp) (by simp only [go_sem]; exact vS)
   ·rw [if_pos f1] at h
    refine X_cond (lx_ok γ) ?_
    simp -implicitDefEqProofs only [go_sem, seval, hi1, f1, hq]
    refine X_skip ?_
    try simp -implicitDefEqProofs only [go_sem]
    refine X_seq ?_
    refine X_block ?_
    refine X_sr (lx_ok γ) ?_
    obtain ⟨x3, f2, h⟩ := bindE h
    obtain ⟨f3, f4⟩ := ixL_nat f2
    have f5 : (0 : Int) ≤ (i1 : Int) := Int.natCast_nonneg _
    simp -implicitDefEqProofs only [go_sem, seval, hi1, f1, hq, f3, f4, f5]
    refine X_sr (lx_ok γ) ?_
    simp -implicitDefEqProofs only [go_sem, seval, hi1, f1, hq]
    refine X_sr (lx_ok γ) ?_
    simp -implicitDefEqProofs only [go_sem, seval, hi1, f1, hq]
    refine X_jq (J := fun as1 ob1 => ∃ (x4 : Int), portolanref03_Great.k2 x4 = some o1 ∧ [(1, V.ref ob.length 0), (3, vint .i64 x4), (4, vint .i64 (i1 : Int))] = as1 ∧ ob ++ [some (O.box [v0_0])] = ob1) ?_ ?_
    ·rintro as1 ob1 ⟨x4, h, rfl, rfl⟩
     rw [portolanref03_Great.k2] at h
     simp -implicitDefEqProofs only [go_sem, seval, hi1, f1, hq]
     refine X_reg (lx_ok γ) ?_
     obtain rfl := sI h
     simp -implicitDefEqProofs only [go_sem, seval, hi1, f1, hq]
     refine kR_in rfl ?_ ⟨rfl, rfl⟩
     exact To.mv [(0, 0)] (BaseR.refl hob) (by simp) (by decide) (by simp only [go_sem]; exact ⟨VM.refA (j := 0) (t := 0) rfl, vS, VM.eqv (by rw [hw1]) (by simp)⟩) ⟨⟨_, rfl, OM.box _ _ ⟨VM.self (by simpa using Bd.of_rdK hv0_0), trivial⟩⟩, trivial⟩
    ·refine X_block ?_
     obtain ⟨lr2, hl2, hk2, hr2⟩ := aft2 h
     refine X_forN hl2 (fun (i2 : Nat) (s : Int) as1 ob1 => [(1, V.ref ob.length 0), (3, vint .i64 s), (4, vint .i64 (i1 : Int)), (5, V.ref (ob.length + 1) 0), (6, vint .i64 (i2 : Int))] = as1 ∧ ob ++ [some (O.box [v0_0]), some (O.box [V.tr (.sl 1 false (List.map (eI .i64) x3.Kinds)), V.tr (.sl 1 false (List.map (eI .i64) x3.Base)), vint .i64 x3.Params, vint .i64 x3.Result, V.tr (.sl 1 false (List.map e_Block x3.Blocks))])] = ob1) ⟨_, _, ?_, rfl, rfl⟩ ?_ ?_
     ·exact To.mv [(0, 0), (1, 0)] (BaseR.refl hob) (by simp) (by decide) (by simp only [go_sem]; exact ⟨VM.refA (j := 0) (t := 0) rfl, vS, vS, VM.refA (j := 1) (t := 1) rfl, VM.eqv (by simp) (by simp)⟩) ⟨⟨_, rfl, OM.box _ _ ⟨VM.self (by simpa using Bd.of_rdK hv0_0), trivial⟩⟩, ⟨_, rfl, OM.box _ _ ⟨vS, vS, vS, vS, vS, trivial⟩⟩, trivial⟩
     ·rintro i2 x4 o2 hi2 hw2 h ho2 as1 ob1 ⟨rfl, rfl⟩
      rw [portolanref03_Great.b2] at h
      refine X_seq ?_
      refine X_sr (lx_ok γ) ?_
      simp -implicitDefEqProofs only [go_sem, seval, hi1, f1, hi2, hq]
      cases f6 : decide (x4 ≤ 3000)
      ·rw [if_neg (nF f6)] at h
       refine X_cond (lx_ok γ) ?_
       simp -implicitDefEqProofs only [go_sem, seval, hi1, f1, hi2, f6, hq]
       obtain rfl := sI h
       have h := hk2 _ (.inr (ho2 (fun _ hs => nomatch hs)))
       refine X_exit ?_
       try simp -implicitDefEqProofs only [go_sem, ↓reduceIte, Nat.reduceEqDiff, reduceCtorEq]
       refine kJ_in ?_ ⟨x4, h, rfl, rfl⟩
       exact To.mv [(0, 0)] (BaseR.refl hob) (by simp) (by decide) (by simp only [go_sem]; exact ⟨VM.refA (j := 0) (t := 0) rfl, vS, vS⟩) ⟨⟨_, rfl, OM.box _ _ ⟨VM.self (by simpa using Bd.of_rdK hv0_0), trivial⟩⟩, trivial⟩
      ·rw [if_pos f6] at h
       refine X_cond (lx_ok γ) ?_
       simp -implicitDefEqProofs only [go_sem, seval, hi1, f1, hi2, f6, hq]
       refine X_skip ?_
       try simp -implicitDefEqProofs only [go_sem]
       refine X_seq ?_
       refine X_block ?_
       refine X_sr (lx_ok γ) ?_
       obtain ⟨x6, f7, h⟩ := bindE h
       obtain ⟨f8, f9⟩ := ixL_nat f7
       have f10 : (0 : Int) ≤ (i2 : Int) := Int.natCast_nonneg _
       simp -implicitDefEqProofs only [go_sem, seval, hi1, f1, hi2, f6, hq, f8, f9, f10]
       refine X_sr (lx_ok γ) ?_
       simp -implicitDefEqProofs only [go_sem, seval, hi1, f1, hi2, f6, hq]
       refine X_jq (J := fun as1 ob1 => ∃ (x7 : Int), portolanref03_Great.k3 x7 = some o2 ∧ [(1, V.ref ob.length 0), (3, vint .i64 x7), (4, vint .i64 (i1 : Int)), (5, V.ref (ob.length + 1) 0), (6, vint .i64 (i2 : Int))] = as1 ∧ ob ++ [some (O.box [v0_0]), some (O.box [V.tr (.sl 1 false (List.map (eI .i64) x3.Kinds)), V.tr (.sl 1 false (List.map (eI .i64) x3.Base)), vint .i64 x3.Params, vint .i64 x3.Result, V.tr (.sl 1 false (List.map e_Block x3.Blocks))])] = ob1) ?_ ?_
       ·rintro as1 ob1 ⟨x7, h, rfl, rfl⟩
        rw [portolanref03_Great.k3] at h
        simp -implicitDefEqProofs only [go_sem, seval, hi1, f1, hi2, f6, hq]
        refine X_reg (lx_ok γ) ?_
        obtain rfl := sI h
        simp -implicitDefEqProofs only [go_sem, seval, hi1, f1, hi2, f6, hq]
        refine kR_in rfl ?_ ⟨rfl, rfl⟩
        exact To.mv [(0, 0), (1, 0)] (BaseR.refl hob) (by simp) (by decide) (by simp only [go_sem]; exact ⟨VM.refA (j := 0) (t := 0) rfl, vS, vS, VM.refA (j := 1) (t := 1) rfl, VM.eqv (by rw [hw2]) (by simp)⟩) ⟨⟨_, rfl, OM.box _ _ ⟨VM.self (by simpa using Bd.of_rdK hv0_0), trivial⟩⟩, ⟨_, rfl, OM.box _ _ ⟨vS, vS, vS, vS, vS, trivial⟩⟩, trivial⟩
       ·refine X_block ?_
        obtain ⟨lr3, hl3, hk3, hr3⟩ := aft2 h
        refine X_while hl3 (fun (s : Int × Int) as1 ob1 => [(1, V.ref ob.length 0), (3, vint .i64 s.1), (4, vint .i64 (i1 : Int)), (5, V.ref (ob.length + 1) 0), (6, vint .i64 (i2 : Int)), (7, vint .i64 s.2)] = as1 ∧ ob ++ [some (O.box [v0_0]), some (O.box [V.tr (.sl 1 false (List.map (eI .i64) x3.Kinds)), V.tr (.sl 1 false (List.map (eI .i64) x3.Base)), vint .i64 x3.Params, vint .i64 x3.Result, V.tr (.sl 1 false (List.map e_Block x3.Blocks))])] = ob1) ⟨_, _, ?_, rfl, rfl⟩ ?_
        ·exact To.mv [(0, 0), (1, 0)] (BaseR.refl hob) (by simp) (by decide) (by simp only [go_sem]; exact ⟨VM.refA (j := 0) (t := 0) rfl, vS, vS, VM.refA (j := 1) (t := 1) rfl, vS, vS⟩) ⟨⟨_, rfl, OM.box _ _ ⟨VM.self (by simpa using Bd.of_rdK hv0_0), trivial⟩⟩, ⟨_, rfl, OM.box _ _ ⟨vS, vS, vS, vS, vS, trivial⟩⟩, trivial⟩
        ·rintro ⟨x7, x8⟩ o3 h ho3 as1 ob1 ⟨rfl, rfl⟩
         rw [portolanref03_Great.b3] at h
         refine X_seq ?_
         refine X_seq ?_
         refine X_jq (J := fun as1 ob1 => ∃ (x10 : Bool), portolanref03_Great.j1 x3 x7 x8 x10 i2 = some o3 ∧ [(1, V.ref ob.length 0), (3, vint .i64 x7), (4, vint .i64 (i1 : Int)), (5, V.ref (ob.length + 1) 0), (6, vint .i64 (i2 : Int)), (7, vint .i64 x8), (72, vbool x10)] = as1 ∧ ob ++ [some (O.box [v0_0]), some (O.box [V.tr (.sl 1 false (List.map (eI .i64) x3.Kinds)), V.tr (.sl 1 false (List.map (eI .i64) x3.Base)), vint .i64 x3.Params, vint .i64 x3.Result, V.tr (.sl 1 false (List.map e_Block x3.Blocks))])] = ob1) ?_ ?_
         ·rintro as1 ob1 ⟨x10, h, rfl, rfl⟩
          rw [portolanref03_Great.j1] at h
          simp -implicitDefEqProofs only [go_sem, seval, hi1, f1, hi2, f6, hq]
          cases f11 : x10
          ·rw [if_neg (nF f11)] at h
           refine X_cond (lx_ok γ) ?_
           simp -implicitDefEqProofs only [go_sem, seval, hi1, f1, hi2, f6, f11, hq]
           obtain rfl := sI h
           have h := hk3 _ (.inr (ho3 (fun _ hs => nomatch hs)))
           refine X_exit ?_
           try simp -implicitDefEqProofs only [go_sem, ↓reduceIte, Nat.reduceEqDiff, reduceCtorEq]
           refine kJ_in ?_ ⟨x7, h, rfl, rfl⟩
           exact To.mv [(0, 0), (1, 0)] (BaseR.refl hob) (by simp) (by decide) (by simp only [go_sem]; exact ⟨VM.refA (j := 0) (t := 0) rfl, vS, vS, VM.refA (j := 1) (t := 1) rfl, vS⟩) ⟨⟨_, rfl, OM.box _ _ ⟨VM.self (by simpa using Bd.of_rdK hv0_0), trivial⟩⟩, ⟨_, rfl, OM.box _ _ ⟨vS, vS, vS, vS, vS, trivial⟩⟩, trivial⟩
          ·rw [if_pos f11] at h
           refine X_cond (lx_ok γ) ?_
           simp -implicitDefEqProofs only [go_sem, seval, hi1, f1, hi2, f6, f11, hq]
           refine X_skip ?_
           try simp -implicitDefEqProofs only [go_sem]
           refine X_seq ?_
           refine X_block ?_
           refine X_reg (lx_ok γ) ?_
           obtain ⟨x11, f12, h⟩ := bindE h
           obtain ⟨f13, f14⟩ := ixL_nat f12
           have f15 : (0 : Int) ≤ (i2 : Int) := Int.natCast_nonneg _
           obtain ⟨x12, f16, h⟩ := bindE h
           obtain ⟨f17, f18, f19⟩ := ixL_some f16
           try simp only [Int.toNat_natCast, Int.reduceToNat] at f19
           simp -implicitDefEqProofs only [go_sem, seval, hi1, f1, hi2, f6, f11, hq, f13, f14, f15, f17, f18, f19]
           refine X_reg (lx_ok γ) ?_
           obtain rfl := sI h
           simp -implicitDefEqProofs only [go_sem, seval, hi1, f1, hi2, f6, f11, hq]
           refine kR_in rfl ?_ ⟨rfl, rfl⟩
           exact To.mv [(0, 0), (1, 0)] (BaseR.refl hob) (by simp) (by decide) (by simp only [go_sem]; exact ⟨VM.refA (j := 0) (t := 0) rfl, vS, vS, VM.refA (j := 1) (t := 1) rfl, vS, vS⟩) ⟨⟨_, rfl, OM.box _ _ ⟨VM.self (by simpa using Bd.of_rdK hv0_0), trivial⟩⟩, ⟨_, rfl, OM.box _ _ ⟨vS, vS, vS, vS, vS, trivial⟩⟩, trivial⟩
         ·refine X_reg (lx_ok γ) ?_
          obtain ⟨x13, f20, h⟩ := bindE h
          obtain ⟨f21, f22⟩ := ixL_nat f20
          have f23 : (0 : Int) ≤ (i2 : Int) := Int.natCast_nonneg _
          cases f24 : decide (x8 < (List.length x13.Code : Int))
          ·rw [if_neg (nF f24)] at h
           simp -implicitDefEqProofs only [go_sem, seval, hi1, f1, hi2, f6, f24, hq, f21, f22, f23]
           refine kJ_in ?_ ⟨false, h, rfl, rfl⟩
           exact To.mv [(0, 0), (1, 0)] (BaseR.refl hob) (by simp) (by decide) (by simp only [go_sem]; exact ⟨VM.refA (j := 0) (t := 0) rfl, vS, vS, VM.refA (j := 1) (t := 1) rfl, vS, vS, vS⟩) ⟨⟨_, rfl, OM.box _ _ ⟨VM.self (by simpa using Bd.of_rdK hv0_0), trivial⟩⟩, ⟨_, rfl, OM.box _ _ ⟨vS, vS, vS, vS, vS, trivial⟩⟩, trivial⟩
          ·rw [if_pos f24] at h
           simp -implicitDefEqProofs only [go_sem, seval, hi1, f1, hi2, f6, f24, hq, f21, f22, f23]
           refine kJ_in ?_ ⟨(decide (x7 ≤ 3000)), h, rfl, rfl⟩
           exact To.mv [(0, 0), (1, 0)] (BaseR.refl hob) (by simp) (by decide) (by simp only [go_sem]; exact ⟨VM.refA (j := 0) (t := 0) rfl, vS, vS, VM.refA (j := 1) (t := 1) rfl, vS, vS, vS⟩) ⟨⟨_, rfl, OM.box _ _ ⟨VM.self (by simpa using Bd.of_rdK hv0_0), trivial⟩⟩, ⟨_, rfl, OM.box _ _ ⟨vS, vS, vS, vS, vS, trivial⟩⟩, trivial⟩
     ·rintro i2 x4 hi2 hn2 as1 ob1 ⟨rfl, rfl⟩
      refine X_seq ?_
      refine X_sr (lx_ok γ) ?_
      simp -implicitDefEqProofs only [go_sem, seval, hi1, f1, hi2, hq]
      refine X_condF (lx_ok γ) rfl ?_
      have h := hk2 _ (.inl hn2)
      refine X_exit ?_
      try simp -implicitDefEqProofs only [go_sem, ↓reduceIte, Nat.reduceEqDiff, reduceCtorEq]
      refine kJ_in ?_ ⟨x4, h, rfl, rfl⟩
      exact To.mv [(0, 0)] (BaseR.refl hob) (by simp) (by decide) (by simp only [go_sem]; exact ⟨VM.refA (j := 0) (t := 0) rfl, vS, vS⟩) ⟨⟨_, rfl, OM.box _ _ ⟨VM.self (by simpa using Bd.of_rdK hv0_0), trivial⟩⟩, trivial⟩
  ·rintro i1 x1 hi1 hn1 as1 ob1 ⟨rfl, rfl⟩
   refine X_seq ?_
   refine X_sr (lx_ok γ) ?_
   simp -implicitDefEqProofs only [go_sem, seval, hi1, hq]
   refine X_condF (lx_ok γ) rfl ?_
   have h := hk1 _ (.inl hn1)
   refine X_exit ?_
   try simp -implicitDefEqProofs only [go_sem, ↓reduceIte, Nat.reduceEqDiff, reduceCtorEq]
   refine kJ_in ?_ ⟨x1, h, rfl, rfl⟩
   exact To.mv0 (BaseR.refl hob) (by simp) (by simp only [go_sem]; exact vS)
end Go.Pf
end
section
set_option maxRecDepth 100000
namespace Go.Pf
open Go Go.Ab Go.Pp Go.Proofs Go.Proofs.S04
attribute [local go_sem] Lxτ Lxγ gam0 Int.toNat_natCast tau3 eI eB eS e_Ins e_Block e_Func e_Prog e_code_writer e_code_reader e_Edge
set_option maxHeartbeats 1000000 in
theorem portolanref04_Last_ok (γ : GT) (ob : OT) {a0 : Int} {r : Bool} (h : portolanref04_Last a0 = some r) :
  Valid (Lx γ) 20 [vint .i64 a0] ob (vbool r) ob := by
 refine valid_X (lx_ok γ) (fn := Tryd.f20) (rs := [.tmp 2]) Tryd.func20 (by kernel_rfl) rfl rfl Tryd.ntmps20 rfl (by simp) fun hb hob => ?_
 rw [portolanref04_Last] at h
 refine X_sr (lx_ok γ) ?_
 simp -implicitDefEqProofs only [go_sem, seval]
 refine X_sr (lx_ok γ) ?_
 cases f1 : (a0 == 21)
 ·rw [if_neg (nF f1)] at h
  cases f2 : (a0 == 22)
  ·rw [if_neg (nF f2)] at h
   simp -implicitDefEqProofs only [go_sem, seval, f1, f2]
   obtain rfl := sI h
   refine X_ret ?_
   simp -implicitDefEqProofs only [go_sem, seval, f1, f2]
   exact Rt.mv1 (BaseR.refl hob) (by simp) (vS)
  ·rw [if_pos f2] at h
   simp -implicitDefEqProofs only [go_sem, seval, f1, f2]
   obtain rfl := sI h
   refine X_ret ?_
   simp -implicitDefEqProofs only [go_sem, seval, f1, f2]
   exact Rt.mv1 (BaseR.refl hob) (by simp) (vS)
 ·rw [if_pos f1] at h
  simp -implicitDefEqProofs only [go_sem, seval, f1]
  obtain rfl := sI h
  refine X_ret ?_
  simp -implicitDefEqProofs only [go_sem, seval, f1]
  exact Rt.mv1 (BaseR.refl hob) (by simp) (vS)
end Go.Pf
end
section
set_option maxRecDepth 100000
namespace Go.Pf
open Go Go.Ab Go.Pp Go.Proofs Go.Proofs.S04
attribute [local go_sem] Lxτ Lxγ gam0 Int.toNat_natCast tau3 eI eB eS e_Ins e_Block e_Func e_Prog e_code_writer e_code_reader e_Edge
set_option maxHeartbeats 1000000 in
theorem portolanref04_within_ok (γ : GT) (ob : OT) {a0 : Int} {a1 : Int} {a2 : Int} {r : Bool} (h : portolanref04_within a0 a1 a2 = some r) :
  Valid (Lx γ) 41 [vint .i64 a0, vint .i64 a1, vint .i64 a2] ob (vbool r) ob := by
 refine valid_X (lx_ok γ) (fn := Tryd.f41) (rs := [.tmp 6]) Tryd.func41 (by kernel_rfl) rfl rfl Tryd.ntmps41 rfl (by simp) fun hb hob => ?_
 rw [portolanref04_within] at h
 refine X_sr (lx_ok γ) ?_
 simp -implicitDefEqProofs only [go_sem, seval]
 refine X_sr (lx_ok γ) ?_
 cases f1 : decide (a1 ≤ a0)
 ·rw [if_neg (nF f1)] at h
  simp -implicitDefEqProofs only [go_sem, seval, f1]
  obtain rfl := sI h
  refine X_ret ?_
  simp -implicitDefEqProofs only [go_sem, seval, f1]
  exact Rt.mv1 (BaseR.refl hob) (by simp) (vS)
 ·rw [if_pos f1] at h
  simp -implicitDefEqProofs only [go_sem, seval, f1]
  obtain rfl := sI h
  refine X_ret ?_
  simp -implicitDefEqProofs only [go_sem, seval, f1]
  exact Rt.mv1 (BaseR.refl hob) (by simp) (vS)
end Go.Pf
end
section
set_option maxRecDepth 100000
namespace Go.Pf
open Go Go.Ab Go.Pp Go.Proofs Go.Proofs.S04
attribute [local go_sem] Lxτ Lxγ gam0 Int.toNat_natCast List.append_eq List.cons_append List.nil_append tau3 tau4 tau28 tau29 tau31 tau35 tau42 tau44 eI eB eS e_Ins e_Block e_Func e_Prog e_code_writer e_code_reader e_Edge
set_option maxHeartbeats 1000000 in
theorem portolanref04_Func_ok (γ : GT) (ob : OT) {a0 : Func} {v0_0 : V} {v0_1 : V} {v0_4 : V} (hv0_0 : rdK (getO ob) 1 v0_0 = some (List.map (eI .i64) a0.Kinds)) (hv0_1 : rdK (getO ob) 1 v0_1 = some (List.map (eI .i64) a0.Base)) (hv0_4 : rdK (getO ob) 1 v0_4 = some (List.map e_Block a0.Blocks)) {r : Bool} (h : portolanref04_Func a0 = some r) :
  Valid (Lx γ) 12 [V.agg [v0_0, v0_1, vint .i64 a0.Params, vint .i64 a0.Result, v0_4]] ob (vbool r) ob := by
 refine valid_X (lx_ok γ) (fn := Tryd.f12) (rs := [.tmp 2]) Tryd.func12 (by kernel_rfl) rfl rfl Tryd.ntmps12 rfl (by simp) fun hb hob => ?_
 have hq := And.intro (rd4 hv0_0) (And.intro (rd4 hv0_1) (rd4 hv0_4))
 rw [portolanref04_Func] at h
 refine X_sr (lx_ok γ) ?_
 simp -implicitDefEqProofs only [go_sem, seval, hq]
 refine X_sr (lx_ok γ) ?_
 simp -implicitDefEqProofs only [go_sem, seval, hq]
 refine X_seq ?_
 refine X_seq ?_
 refine X_jq (J := fun as1 ob1 => ∃ (x2 : Bool), portolanref04_Func.j1 a0 x2 = some r ∧ [(1, V.ref ob.length 0), (3, vint .i64 (List.length a0.Kinds : Int)), (40, vbool x2)] = as1 ∧ ob ++ [some (O.box [v0_0, v0_1, vint .i64 a0.Params, vint .i64 a0.Result, v0_4])] = ob1) ?_ ?_
 ·rintro as1 ob1 ⟨x2, h, rfl, rfl⟩
  rw [portolanref04_Func.j1] at h
  simp -implicitDefEqProofs only [go_sem, seval, hq]
  cases f1 : x2
  ·rw [if_neg (nF f1)] at h
   refine X_cond (lx_ok γ) ?_
   simp -implicitDefEqProofs only [go_sem, seval, f1, hq]
   refine X_skip ?_
   try simp -implicitDefEqProofs only [go_sem]
   refine X_seq ?_
   refine X_sr (lx_ok γ) ?_
   simp -implicitDefEqProofs only [go_sem, seval, f1, hq]
   refine X_jq (J := fun as1 ob1 => portolanref04_Func.k1 a0 = some r ∧ [(1, V.ref ob.length 0)] = as1 ∧ ob ++ [some (O.box [v0_0, v0_1, vint .i64 a0.Params, vint .i64 a0.Result, v0_4])] = ob1) ?_ ?_
   ·rintro as1 ob1 ⟨h, rfl, rfl⟩
    rw [portolanref04_Func.k1] at h
    simp -implicitDefEqProofs only [go_sem, seval, f1, hq]
    refine X_seq ?_
    refine X_sr (lx_ok γ) ?_
    simp -implicitDefEqProofs only [go_sem, seval, f1, hq]
    refine X_jq (J := fun as1 ob1 => portolanref04_Func.k2 = some r ∧ [] = as1 ∧ ob = ob1) ?_ ?_
    ·rintro as1 ob1 ⟨h, rfl, rfl⟩
     rw [portolanref04_Func.k2] at h
     simp -implicitDefEqProofs only [go_sem, seval, f1, hq]
     refine X_sr (lx_ok γ) ?_
     simp -implicitDefEqProofs only [go_sem, seval, f1, hq]
     obtain rfl := sI h
     refine X_ret ?_
     simp -implicitDefEqProofs only [go_sem, seval, f1, hq]
     exact Rt.mv1 (BaseR.refl hob) (by simp) (vS)
    ·refine X_block ?_
     obtain ⟨lr2, hl2, hk2, hr2⟩ := aft2 h
     refine X_forN hl2 (fun (i2 : Nat) (s : Unit) as1 ob1 => [(1, V.ref ob.length 0), (5, vint .i64 (i2 : Int))] = as1 ∧ ob ++ [some (O.box [v0_0, v0_1, vint .i64 a0.Params, vint .i64 a0.Result, v0_4])] = ob1) ⟨_, _, ?_, rfl, rfl⟩ ?_ ?_
     ·exact To.mv [(0, 0)] (BaseR.refl hob) (by simp) (by decide) (by simp only [go_sem]; exact ⟨VM.refA (j := 0) (t := 0) rfl, VM.eqv (by simp) (by simp)⟩) ⟨⟨_, rfl, OM.box _ _ ⟨VM.self (by simpa using Bd.of_rdK hv0_0), VM.self (by simpa using Bd.of_rdK hv0_1), vS, vS, VM.self (by simpa using Bd.of_rdK hv0_4), trivial⟩⟩, trivial⟩
     ·rintro i2 _ o2 hi2 hw2 h ho2 as1 ob1 ⟨rfl, rfl⟩
      rw [portolanref04_Func.b2] at h
      refine X_seq ?_
      refine X_sr (lx_ok γ) ?_
      simp -implicitDefEqProofs only [go_sem, seval, f1, hi2, hq]
      refine X_cond (lx_ok γ) ?_
      simp -implicitDefEqProofs only [go_sem, seval, f1, hi2, hq]
      refine X_skip ?_
      try simp -implicitDefEqProofs only [go_sem]
      refine X_seq ?_
      refine X_block ?_
      refine X_sr (lx_ok γ) ?_
      obtain ⟨x5, f2, h⟩ := bindE h
      obtain ⟨f3, f4⟩ := ixL_nat f2
      have f5 : (0 : Int) ≤ (i2 : Int) := Int.natCast_nonneg _
      simp -implicitDefEqProofs only [go_sem, seval, f1, hi2, hq, f3, f4, f5]
      refine X_seq ?_
      refine X_sr (lx_ok γ) ?_
      obtain ⟨x6, f6, h⟩ := bindE h
      simp -implicitDefEqProofs only [go_sem, seval, f1, hi2, hq]
      refine callV_eq (portolanref04_within_ok γ _  f6) rfl rfl ?_
      simp -implicitDefEqProofs only [go_sem, seval, f1, hi2, hq]
      cases f7 : x6
      ·rw [if_neg (nF f7)] at h
       refine X_cond (lx_ok γ) ?_
       simp -implicitDefEqProofs only [go_sem, seval, f1, hi2, f7, hq]
       refine X_sr (lx_ok γ) ?_
       simp -implicitDefEqProofs only [go_sem, seval, f1, hi2, f7, hq]
       obtain rfl := sI h
       have h := hr2 _ (ho2 (fun _ hs => nomatch hs))
       obtain rfl := sI h
       refine X_ret ?_
       simp -implicitDefEqProofs only [go_sem, seval, f1, hi2, f7, hq]
       exact Rt.mv0 (BaseR.refl hob) (by simp) (vS)
      ·rw [if_pos f7] at h
       refine X_cond (lx_ok γ) ?_
       simp -implicitDefEqProofs only [go_sem, seval, f1, hi2, f7, hq]
       refine X_skip ?_
       try simp -implicitDefEqProofs only [go_sem]
       refine X_sr (lx_ok γ) ?_
       simp -implicitDefEqProofs only [go_sem, seval, f1, hi2, f7, hq]
       refine X_jq (J := fun as1 ob1 => portolanref04_Func.k3 = some o2 ∧ [(1, V.ref ob.length 0), (5, vint .i64 (i2 : Int))] = as1 ∧ ob ++ [some (O.box [v0_0, v0_1, vint .i64 a0.Params, vint .i64 a0.Result, v0_4])] = ob1) ?_ ?_
       ·rintro as1 ob1 ⟨h, rfl, rfl⟩
        rw [portolanref04_Func.k3] at h
        simp -implicitDefEqProofs only [go_sem, seval, f1, hi2, f7, hq]
        refine X_reg (lx_ok γ) ?_
        obtain rfl := sI h
        simp -implicitDefEqProofs only [go_sem, seval, f1, hi2, f7, hq]
        refine kR_in rfl ?_ ⟨rfl, rfl⟩
        exact To.mv [(0, 0)] (BaseR.refl hob) (by simp) (by decide) (by simp only [go_sem]; exact ⟨VM.refA (j := 0) (t := 0) rfl, VM.eqv (by rw [hw2]) (by simp)⟩) ⟨⟨_, rfl, OM.box _ _ ⟨VM.self (by simpa using Bd.of_rdK hv0_0), VM.self (by simpa using Bd.of_rdK hv0_1), vS, vS, VM.self (by simpa using Bd.of_rdK hv0_4), trivial⟩⟩, trivial⟩
       ·refine X_block ?_
        obtain ⟨lr3, hl3, hk3, hr3⟩ := aft2 h
        refine X_forN hl3 (fun (i3 : Nat) (s : Unit) as1 ob1 => [(1, V.ref ob.length 0), (5, vint .i64 (i2 : Int)), (6, V.tr (.sl 7 false (List.map e_Ins x5.Code))), (7, vint .i64 (i3 : Int))] = as1 ∧ ob ++ [some (O.box [v0_0, v0_1, vint .i64 a0.Params, vint .i64 a0.Result, v0_4])] = ob1) ⟨_, _, ?_, rfl, rfl⟩ ?_ ?_
        ·exact To.mv [(0, 0)] (BaseR.refl hob) (by simp) (by decide) (by simp only [go_sem]; exact ⟨VM.refA (j := 0) (t := 0) rfl, vS, vS, VM.eqv (by simp) (by simp)⟩) ⟨⟨_, rfl, OM.box _ _ ⟨VM.self (by simpa using Bd.of_rdK hv0_0), VM.self (by simpa using Bd.of_rdK hv0_1), vS, vS, VM.self (by simpa using Bd.of_rdK hv0_4), trivial⟩⟩, trivial⟩
        ·rintro i3 _ o3 hi3 hw3 h ho3 as1 ob1 ⟨rfl, rfl⟩
         rw [portolanref04_Func.b3] at h
         refine X_seq ?_
         refine X_sr (lx_ok γ) ?_
         simp -implicitDefEqProofs only [go_sem, seval, f1, hi2, f7, hi3, hq]
         refine X_cond (lx_ok γ) ?_
         simp -implicitDefEqProofs only [go_sem, seval, f1, hi2, f7, hi3, hq]
         refine X_skip ?_
         try simp -implicitDefEqProofs only [go_sem]
         refine X_seq ?_
         refine X_block ?_
         refine X_sr (lx_ok γ) ?_
         obtain ⟨x8, f8, h⟩ := bindE h
         obtain ⟨f9, f10⟩ := ixL_nat f8
         have f11 : (0 : Int) ≤ (i3 : Int) := Int.natCast_nonneg _
         obtain ⟨x9, f12, h⟩ := bindE h
         simp -implicitDefEqProofs only [go_sem, seval, f1, hi2, f7, hi3, hq, f9, f10, f11]
         refine callV_eq (portolanref04_Last_ok γ _  f12) rfl rfl ?_
         simp -implicitDefEqProofs only [go_sem, seval, f1, hi2, f7, hi3, hq, f9, f10, f11]
         cases f13 : x9 == ((i3 : Int) == w64 ((List.length x5.Code : Int) - 1))
         ·rw [if_neg (nF f13)] at h
          refine X_cond (lx_ok γ) ?_
          simp -implicitDefEqProofs only [go_sem, seval, f1, hi2, f7, hi3, f13, hq, f9, f10, f11]
          refine X_sr (lx_ok γ) ?_
          simp -implicitDefEqProofs only [go_sem, seval, f1, hi2, f7, hi3, f13, hq]
          obtain rfl := sI h
          have h := hr3 _ (ho3 (fun _ hs => nomatch hs))
          obtain rfl := sI h
          have h := hr2 _ (ho2 (fun _ hs => nomatch hs))
          obtain rfl := sI h
          refine X_ret ?_
          simp -implicitDefEqProofs only [go_sem, seval, f1, hi2, f7, hi3, f13, hq]
          exact Rt.mv0 (BaseR.refl hob) (by simp) (vS)
         ·rw [if_pos f13] at h
          refine X_cond (lx_ok γ) ?_
          simp -implicitDefEqProofs only [go_sem, seval, f1, hi2, f7, hi3, f13, hq, f9, f10, f11]
          refine X_skip ?_
          try simp -implicitDefEqProofs only [go_sem]
          refine X_reg (lx_ok γ) ?_
          obtain rfl := sI h
          simp -implicitDefEqProofs only [go_sem, seval, f1, hi2, f7, hi3, f13, hq]
          refine kR_in rfl ?_ ⟨rfl, rfl⟩
          exact To.mv [(0, 0)] (BaseR.refl hob) (by simp) (by decide) (by simp only [go_sem]; exact ⟨VM.refA (j := 0) (t := 0) rfl, vS, vS, VM.eqv (by rw [hw3]) (by simp)⟩) ⟨⟨_, rfl, OM.box _ _ ⟨VM.self (by simpa using Bd.of_rdK hv0_0), VM.self (by simpa using Bd.of_rdK hv0_1), vS, vS, VM.self (by simpa using Bd.of_rdK hv0_4), trivial⟩⟩, trivial⟩
        ·rintro i3 _ hi3 hn3 as1 ob1 ⟨rfl, rfl⟩
         refine X_seq ?_
         refine X_sr (lx_ok γ) ?_
         simp -implicitDefEqProofs only [go_sem, seval, f1, hi2, f7, hi3, hq]
         refine X_cond (lx_ok γ) ?_
         simp -implicitDefEqProofs only [go_sem, seval, f1, hi2, f7, hi3, hq]
         have h := hk3 _ (.inl hn3)
         refine X_exit ?_
         try simp -implicitDefEqProofs only [go_sem, ↓reduceIte, Nat.reduceEqDiff, reduceCtorEq]
         refine kJ_in ?_ ⟨h, rfl, rfl⟩
         exact To.mv [(0, 0)] (BaseR.refl hob) (by simp) (by decide) (by simp only [go_sem]; exact ⟨VM.refA (j := 0) (t := 0) rfl, vS⟩) ⟨⟨_, rfl, OM.box _ _ ⟨VM.self (by simpa using Bd.of_rdK hv0_0), VM.self (by simpa using Bd.of_rdK hv0_1), vS, vS, VM.self (by simpa using Bd.of_rdK hv0_4), trivial⟩⟩, trivial⟩
     ·rintro i2 _ hi2 hn2 as1 ob1 ⟨rfl, rfl⟩
      refine X_seq ?_
      refine X_sr (lx_ok γ) ?_
      simp -implicitDefEqProofs only [go_sem, seval, f1, hi2, hq]
      refine X_cond (lx_ok γ) ?_
      simp -implicitDefEqProofs only [go_sem, seval, f1, hi2, hq]
      have h := hk2 _ (.inl hn2)
      refine X_exit ?_
      try simp -implicitDefEqProofs only [go_sem, ↓reduceIte, Nat.reduceEqDiff, reduceCtorEq]
      refine kJ_in ?_ ⟨h, rfl, rfl⟩
      exact To.mv0 (BaseR.refl hob) (by simp) trivial
   ·refine X_block ?_
    obtain ⟨lr1, hl1, hk1, hr1⟩ := aft2 h
    refine X_forN hl1 (fun (i1 : Nat) (s : Unit) as1 ob1 => [(1, V.ref ob.length 0), (3, vint .i64 (List.length a0.Kinds : Int)), (4, vint .i64 (i1 : Int))] = as1 ∧ ob ++ [some (O.box [v0_0, v0_1, vint .i64 a0.Params, vint .i64 a0.Result, v0_4])] = ob1) ⟨_, _, ?_, rfl, rfl⟩ ?_ ?_
    ·exact To.mv [(0, 0)] (BaseR.refl hob) (by simp) (by decide) (by simp only [go_sem]; exact ⟨VM.refA (j := 0) (t := 0) rfl, vS, VM.eqv (by simp) (by simp)⟩) ⟨⟨_, rfl, OM.box _ _ ⟨VM.self (by simpa using Bd.of_rdK hv0_0), VM.self (by simpa using Bd.of_rdK hv0_1), vS, vS, VM.self (by simpa using Bd.of_rdK hv0_4), trivial⟩⟩, trivial⟩
    ·rintro i1 _ o1 hi1 hw1 h ho1 as1 ob1 ⟨rfl, rfl⟩
     rw [portolanref04_Func.b1] at h
     refine X_seq ?_
     refine X_sr (lx_ok γ) ?_
     simp -implicitDefEqProofs only [go_sem, seval, f1, hi1, hq]
     refine X_cond (lx_ok γ) ?_
     simp -implicitDefEqProofs only [go_sem, seval, f1, hi1, hq]
     refine X_skip ?_
     try simp -implicitDefEqProofs only [go_sem]
     refine X_seq ?_
     refine X_block ?_
     refine X_seq ?_
     refine X_jq (J := fun as1 ob1 => portolanref04_Func.j2 a0 i1 = some o1 ∧ [(1, V.ref ob.length 0), (3, vint .i64 (List.length a0.Kinds : Int)), (4, vint .i64 (i1 : Int))] = as1 ∧ ob ++ [some (O.box [v0_0, v0_1, vint .i64 a0.Params, vint .i64 a0.Result, v0_4])] = ob1) ?_ ?_
     ·rintro as1 ob1 ⟨h, rfl, rfl⟩
      rw [portolanref04_Func.j2] at h
      simp -implicitDefEqProofs only [go_sem, seval, f1, hi1, hq]
      refine X_seq ?_
      refine X_sr (lx_ok γ) ?_
      obtain ⟨x10, f14, h⟩ := bindE h
      obtain ⟨f15, f16⟩ := ixL_nat f14
      have f17 : (0 : Int) ≤ (i1 : Int) := Int.natCast_nonneg _
      simp -implicitDefEqProofs only [go_sem, seval, f1, hi1, hq, f15, f16, f17]
      cases f18 : (x10 != 2)
      ·rw [if_neg (nF f18)] at h
       refine X_cond (lx_ok γ) ?_
       simp -implicitDefEqProofs only [go_sem, seval, f1, hi1, f18, hq, f15, f16, f17]
       refine X_skip ?_
       try simp -implicitDefEqProofs only [go_sem]
       refine X_seq ?_
       refine X_drawn (lx_ok γ) [[], [0], [], [0, 1, 2], [0, 1, 2, 3], [], [5], [0, 1, 2, 3, 4, 5, 6], [0, 1, 2, 3, 4, 5, 6, 7], [0, 1, 2, 3, 4, 5, 6, 7, 8], [0, 1, 2, 3, 4, 5, 6, 7, 8, 9], [0, 1, 2, 3, 4, 5, 6, 7, 8, 9, 10], [0, 1, 2, 3, 4, 5, 6, 7, 8, 9], [0, 1, 2, 3, 4, 5, 6, 7, 8, 9, 12], [0, 1, 2, 3, 4, 5, 6, 7, 8, 9], [0, 1, 2, 3, 4, 5, 6, 7, 8, 9, 12, 13, 14], [0, 1, 2, 3, 4, 5, 6, 7, 8, 9, 12, 13, 14, 15], [0, 1, 2, 3, 4, 5, 6, 7, 8, 9, 10, 11, 12, 13, 14, 15, 16], [0, 1, 2, 3, 4, 5, 6, 7, 8, 9, 10, 11, 12, 13, 14, 15, 16, 17], [0, 1, 2, 3, 4, 5, 6, 7, 8, 9, 10, 11, 12, 13, 14, 15, 16, 17, 18], [0, 1, 2, 3, 4, 5, 6, 7, 8, 9, 10, 11, 12, 13, 14, 15, 16, 17, 18, 19]] (fun i => match i with | _ => false) (by kernel_rfl) ?_
       obtain ⟨x11, f19, h⟩ := bindE h
       obtain ⟨f20, f21⟩ := ixL_nat f19
       have f22 : (0 : Int) ≤ (i1 : Int) := Int.natCast_nonneg _
       obtain ⟨x12, f23, h⟩ := bindE h
       try simp -implicitDefEqProofs only [go_sem, seval, f1, hi1, f18, hq, f20, f21, f22, cmpr, List.getD_cons_zero, List.getD_cons_succ, List.contains_cons, List.contains_nil, Nat.reduceBEq, Bool.false_or, Bool.or_false, Bool.true_or, Bool.or_true, beq_self_eq_true]
       refine callV_eq (portolanref04_within_ok γ _  f23) rfl rfl ?_
       cases f24 : x12
       ·rw [if_neg (nF f24)] at h
        try simp -implicitDefEqProofs only [go_sem, seval, f1, hi1, f18, f24, hq, f20, f21, f22, cmpr, List.getD_cons_zero, List.getD_cons_succ, List.contains_cons, List.contains_nil, Nat.reduceBEq, Bool.false_or, Bool.or_false, Bool.true_or, Bool.or_true, beq_self_eq_true]
        refine X_condT (lx_ok γ) rfl ?_
        refine X_sr (lx_ok γ) ?_
        simp -implicitDefEqProofs only [go_sem, seval, f1, hi1, f18, f24, hq]
        obtain rfl := sI h
        have h := hr1 _ (ho1 (fun _ hs => nomatch hs))
        obtain rfl := sI h
        refine X_ret ?_
        simp -implicitDefEqProofs only [go_sem, seval, f1, hi1, f18, f24, hq]
        exact Rt.mv0 (BaseR.refl hob) (by simp) (vS)
       ·rw [if_pos f24] at h
        obtain ⟨x13, f25, h⟩ := bindE h
        obtain ⟨f26, f27, f28⟩ := ixL_some f25
        try simp only [Int.toNat_natCast, Int.reduceToNat] at f28
        try simp -implicitDefEqProofs only [go_sem, seval, f1, hi1, f18, f24, hq, f20, f21, f22, f26, f27, f28, cmpr, List.getD_cons_zero, List.getD_cons_succ, List.contains_cons, List.contains_nil, Nat.reduceBEq, Bool.false_or, Bool.or_false, Bool.true_or, Bool.or_true, beq_self_eq_true]
        cases f29 : (x13 != 1)
        ·rw [if_neg (nF f29)] at h
         refine X_cond (lx_ok γ) ?_
         simp -implicitDefEqProofs only [go_sem, seval, f1, hi1, f18, f24, f29, hq, f20, f21, f22, f26, f27, f28]
         refine X_skip ?_
         try simp -implicitDefEqProofs only [go_sem]
         refine X_reg (lx_ok γ) ?_
         obtain rfl := sI h
         simp -implicitDefEqProofs only [go_sem, seval, f1, hi1, f18, f24, f29, hq]
         refine kR_in rfl ?_ ⟨rfl, rfl⟩
         exact To.mv [(0, 0)] (BaseR.refl hob) (by simp) (by decide) (by simp only [go_sem]; exact ⟨VM.refA (j := 0) (t := 0) rfl, vS, VM.eqv (by rw [hw1]) (by simp)⟩) ⟨⟨_, rfl, OM.box _ _ ⟨VM.self (by simpa using Bd.of_rdK hv0_0), VM.self (by simpa using Bd.of_rdK hv0_1), vS, vS, VM.self (by simpa using Bd.of_rdK hv0_4), trivial⟩⟩, trivial⟩
        ·rw [if_pos f29] at h
         refine X_cond (lx_ok γ) ?_
         simp -implicitDefEqProofs only [go_sem, seval, f1, hi1, f18, f24, f29, hq, f20, f21, f22, f26, f27, f28]
         refine X_sr (lx_ok γ) ?_
         simp -implicitDefEqProofs only [go_sem, seval, f1, hi1, f18, f24, f29, hq]
         obtain rfl := sI h
         have h := hr1 _ (ho1 (fun _ hs => nomatch hs))
         obtain rfl := sI h
         refine X_ret ?_
         simp -implicitDefEqProofs only [go_sem, seval, f1, hi1, f18, f24, f29, hq]
         exact Rt.mv0 (BaseR.refl hob) (by simp) (vS)
      ·rw [if_pos f18] at h
       refine X_cond (lx_ok γ) ?_
       simp -implicitDefEqProofs only [go_sem, seval, f1, hi1, f18, hq, f15, f16, f17]
       refine X_seq ?_
       refine X_sr (lx_ok γ) ?_
       obtain ⟨x14, f30, h⟩ := bindE h
       obtain ⟨f31, f32⟩ := ixL_nat f30
       have f33 : (0 : Int) ≤ (i1 : Int) := Int.natCast_nonneg _
       simp -implicitDefEqProofs only [go_sem, seval, f1, hi1, f18, hq, f31, f32, f33]
       cases f34 : (x14 != (-1))
       ·rw [if_neg (nF f34)] at h
        refine X_cond (lx_ok γ) ?_
        simp -implicitDefEqProofs only [go_sem, seval, f1, hi1, f18, f34, hq, f31, f32, f33]
        refine X_skip ?_
        try simp -implicitDefEqProofs only [go_sem]
        refine X_exit ?_
        try simp -implicitDefEqProofs only [go_sem, ↓reduceIte, Nat.reduceEqDiff, reduceCtorEq]
        refine X_reg (lx_ok γ) ?_
        obtain rfl := sI h
        simp -implicitDefEqProofs only [go_sem, seval, f1, hi1, f18, f34, hq]
        refine kR_in rfl ?_ ⟨rfl, rfl⟩
        exact To.mv [(0, 0)] (BaseR.refl hob) (by simp) (by decide) (by simp only [go_sem]; exact ⟨VM.refA (j := 0) (t := 0) rfl, vS, VM.eqv (by rw [hw1]) (by simp)⟩) ⟨⟨_, rfl, OM.box _ _ ⟨VM.self (by simpa using Bd.of_rdK hv0_0), VM.self (by simpa using Bd.of_rdK hv0_1), vS, vS, VM.self (by simpa using Bd.of_rdK hv0_4), trivial⟩⟩, trivial⟩
       ·rw [if_pos f34] at h
        refine X_cond (lx_ok γ) ?_
        simp -implicitDefEqProofs only [go_sem, seval, f1, hi1, f18, f34, hq, f31, f32, f33]
        refine X_sr (lx_ok γ) ?_
        simp -implicitDefEqProofs only [go_sem, seval, f1, hi1, f18, f34, hq]
        obtain rfl := sI h
        have h := hr1 _ (ho1 (fun _ hs => nomatch hs))
        obtain rfl := sI h
        refine X_ret ?_
        simp -implicitDefEqProofs only [go_sem, seval, f1, hi1, f18, f34, hq]
        exact Rt.mv0 (BaseR.refl hob) (by simp) (vS)
     ·refine X_sr (lx_ok γ) ?_
      obtain ⟨x15, f35, h⟩ := bindE h
      obtain ⟨f36, f37⟩ := ixL_nat f35
      have f38 : (0 : Int) ≤ (i1 : Int) := Int.natCast_nonneg _
      obtain ⟨x16, f39, h⟩ := bindE h
      simp -implicitDefEqProofs only [go_sem, seval, f1, hi1, hq, f36, f37, f38]
      refine callV_eq (portolanref04_within_ok γ _  f39) rfl rfl ?_
      cases f40 : x16
      ·rw [if_neg (nF f40)] at h
       simp -implicitDefEqProofs only [go_sem, seval, f1, hi1, f40, hq, f36, f37, f38]
       refine X_condT (lx_ok γ) rfl ?_
       refine X_sr (lx_ok γ) ?_
       simp -implicitDefEqProofs only [go_sem, seval, f1, hi1, f40, hq]
       obtain rfl := sI h
       have h := hr1 _ (ho1 (fun _ hs => nomatch hs))
       obtain rfl := sI h
       refine X_ret ?_
       simp -implicitDefEqProofs only [go_sem, seval, f1, hi1, f40, hq]
       exact Rt.mv0 (BaseR.refl hob) (by simp) (vS)
      ·rw [if_pos f40] at h
       cases f41 : decide ((i1 : Int) < a0.Params)
       ·rw [if_neg (nF f41)] at h
        simp -implicitDefEqProofs only [go_sem, seval, f1, hi1, f40, f41, hq, f36, f37, f38]
        refine X_condF (lx_ok γ) rfl ?_
        refine X_skip ?_
        try simp -implicitDefEqProofs only [go_sem]
        refine kJ_in ?_ ⟨h, rfl, rfl⟩
        exact To.mv [(0, 0)] (BaseR.refl hob) (by simp) (by decide) (by simp only [go_sem]; exact ⟨VM.refA (j := 0) (t := 0) rfl, vS, vS⟩) ⟨⟨_, rfl, OM.box _ _ ⟨VM.self (by simpa using Bd.of_rdK hv0_0), VM.self (by simpa using Bd.of_rdK hv0_1), vS, vS, VM.self (by simpa using Bd.of_rdK hv0_4), trivial⟩⟩, trivial⟩
       ·rw [if_pos f41] at h
        simp -implicitDefEqProofs only [go_sem, seval, f1, hi1, f40, f41, hq, f36, f37, f38]
        cases f42 : (x15 == 2)
        ·rw [if_neg (nF f42)] at h
         refine X_cond (lx_ok γ) ?_
         simp -implicitDefEqProofs only [go_sem, seval, f1, hi1, f40, f41, f42, hq, f36, f37, f38]
         refine X_skip ?_
         try simp -implicitDefEqProofs only [go_sem]
         refine kJ_in ?_ ⟨h, rfl, rfl⟩
         exact To.mv [(0, 0)] (BaseR.refl hob) (by simp) (by decide) (by simp only [go_sem]; exact ⟨VM.refA (j := 0) (t := 0) rfl, vS, vS⟩) ⟨⟨_, rfl, OM.box _ _ ⟨VM.self (by simpa using Bd.of_rdK hv0_0), VM.self (by simpa using Bd.of_rdK hv0_1), vS, vS, VM.self (by simpa using Bd.of_rdK hv0_4), trivial⟩⟩, trivial⟩
        ·rw [if_pos f42] at h
         refine X_cond (lx_ok γ) ?_
         simp -implicitDefEqProofs only [go_sem, seval, f1, hi1, f40, f41, f42, hq, f36, f37, f38]
         refine X_sr (lx_ok γ) ?_
         simp -implicitDefEqProofs only [go_sem, seval, f1, hi1, f40, f41, f42, hq]
         obtain rfl := sI h
         have h := hr1 _ (ho1 (fun _ hs => nomatch hs))
         obtain rfl := sI h
         refine X_ret ?_
         simp -implicitDefEqProofs only [go_sem, seval, f1, hi1, f40, f41, f42, hq]
         exact Rt.mv0 (BaseR.refl hob) (by simp) (vS)
    ·rintro i1 _ hi1 hn1 as1 ob1 ⟨rfl, rfl⟩
     refine X_seq ?_
     refine X_sr (lx_ok γ) ?_
     simp -implicitDefEqProofs only [go_sem, seval, f1, hi1, hq]
     refine X_cond (lx_ok γ) ?_
     simp -implicitDefEqProofs only [go_sem, seval, f1, hi1, hq]
     have h := hk1 _ (.inl hn1)
     refine X_exit ?_
     try simp -implicitDefEqProofs only [go_sem, ↓reduceIte, Nat.reduceEqDiff, reduceCtorEq]
     refine kJ_in ?_ ⟨h, rfl, rfl⟩
     exact To.mv [(0, 0)] (BaseR.refl hob) (by simp) (by decide) (by simp only [go_sem]; exact VM.refA (j := 0) (t := 0) rfl) ⟨⟨_, rfl, OM.box _ _ ⟨VM.self (by simpa using Bd.of_rdK hv0_0), VM.self (by simpa using Bd.of_rdK hv0_1), vS, vS, VM.self (by simpa using Bd.of_rdK hv0_4), trivial⟩⟩, trivial⟩
  ·rw [if_pos f1] at h
   refine X_cond (lx_ok γ) ?_
   simp -implicitDefEqProofs only [go_sem, seval, f1, hq]
   refine X_sr (lx_ok γ) ?_
   simp -implicitDefEqProofs only [go_sem, seval, f1, hq]
   obtain rfl := sI h
   refine X_ret ?_
   simp -implicitDefEqProofs only [go_sem, seval, f1, hq]
   exact Rt.mv0 (BaseR.refl hob) (by simp) (vS)
 ·refine X_reg (lx_ok γ) ?_
  cases f43 : decide (48 < (List.length a0.Kinds : Int))
  ·rw [if_neg (nF f43)] at h
   cases f44 : ((List.length a0.Base : Int) != (List.length a0.Kinds : Int))
   ·rw [if_neg (nF f44)] at h
    obtain ⟨x17, f45, h⟩ := bindE h
    simp -implicitDefEqProofs only [go_sem, seval, f43, f44, hq]
    refine callV_eq (portolanref04_within_ok γ _  f45) rfl rfl ?_
    cases f46 : x17
    ·rw [if_neg (nF f46)] at h
     simp -implicitDefEqProofs only [go_sem, seval, f43, f44, f46, hq]
     refine kJ_in ?_ ⟨true, h, rfl, rfl⟩
     exact To.mv [(0, 0)] (BaseR.refl hob) (by simp) (by decide) (by simp only [go_sem]; exact ⟨VM.refA (j := 0) (t := 0) rfl, vS, vS⟩) ⟨⟨_, rfl, OM.box _ _ ⟨VM.self (by simpa using Bd.of_rdK hv0_0), VM.self (by simpa using Bd.of_rdK hv0_1), vS, vS, VM.self (by simpa using Bd.of_rdK hv0_4), trivial⟩⟩, trivial⟩
    ·rw [if_pos f46] at h
     obtain ⟨x18, f47, h⟩ := bindE h
     simp -implicitDefEqProofs only [go_sem, seval, f43, f44, f46, hq]
     refine callV_eq (portolanref04_within_ok γ _  f47) rfl rfl ?_
     cases f48 : x18
     ·rw [if_neg (nF f48)] at h
      simp -implicitDefEqProofs only [go_sem, seval, f43, f44, f46, f48, hq]
      refine kJ_in ?_ ⟨true, h, rfl, rfl⟩
      exact To.mv [(0, 0)] (BaseR.refl hob) (by simp) (by decide) (by simp only [go_sem]; exact ⟨VM.refA (j := 0) (t := 0) rfl, vS, vS⟩) ⟨⟨_, rfl, OM.box _ _ ⟨VM.self (by simpa using Bd.of_rdK hv0_0), VM.self (by simpa using Bd.of_rdK hv0_1), vS, vS, VM.self (by simpa using Bd.of_rdK hv0_4), trivial⟩⟩, trivial⟩
     ·rw [if_pos f48] at h
      obtain ⟨x19, f49, h⟩ := bindE h
      simp -implicitDefEqProofs only [go_sem, seval, f43, f44, f46, f48, hq]
      refine callV_eq (portolanref04_within_ok γ _  f49) rfl rfl ?_
      simp -implicitDefEqProofs only [go_sem, seval, f43, f44, f46, f48, hq]
      refine kJ_in ?_ ⟨(!x19), h, rfl, rfl⟩
      exact To.mv [(0, 0)] (BaseR.refl hob) (by simp) (by decide) (by simp only [go_sem]; exact ⟨VM.refA (j := 0) (t := 0) rfl, vS, vS⟩) ⟨⟨_, rfl, OM.box _ _ ⟨VM.self (by simpa using Bd.of_rdK hv0_0), VM.self (by simpa using Bd.of_rdK hv0_1), vS, vS, VM.self (by simpa using Bd.of_rdK hv0_4), trivial⟩⟩, trivial⟩
   ·rw [if_pos f44] at h
    simp -implicitDefEqProofs only [go_sem, seval, f43, f44, hq]
    refine kJ_in ?_ ⟨true, h, rfl, rfl⟩
    exact To.mv [(0, 0)] (BaseR.refl hob) (by simp) (by decide) (by simp only [go_sem]; exact ⟨VM.refA (j := 0) (t := 0) rfl, vS, vS⟩) ⟨⟨_, rfl, OM.box _ _ ⟨VM.self (by simpa using Bd.of_rdK hv0_0), VM.self (by simpa using Bd.of_rdK hv0_1), vS, vS, VM.self (by simpa using Bd.of_rdK hv0_4), trivial⟩⟩, trivial⟩
  ·rw [if_pos f43] at h
   simp -implicitDefEqProofs only [go_sem, seval, f43, hq]
   refine kJ_in ?_ ⟨true, h, rfl, rfl⟩
   exact To.mv [(0, 0)] (BaseR.refl hob) (by simp) (by decide) (by simp only [go_sem]; exact ⟨VM.refA (j := 0) (t := 0) rfl, vS, vS⟩) ⟨⟨_, rfl, OM.box _ _ ⟨VM.self (by simpa using Bd.of_rdK hv0_0), VM.self (by simpa using Bd.of_rdK hv0_1), vS, vS, VM.self (by simpa using Bd.of_rdK hv0_4), trivial⟩⟩, trivial⟩
end Go.Pf
end
section
set_option maxRecDepth 100000
namespace Go.Pf
open Go Go.Ab Go.Pp Go.Proofs Go.Proofs.S04
attribute [local go_sem] Lxτ Lxγ gam0 Int.toNat_natCast tau3 eI eB eS e_Ins e_Block e_Func e_Prog e_code_writer e_code_reader e_Edge
set_option maxHeartbeats 1000000 in
theorem portolanref03_Parts_ok (γ : GT) (ob : OT) {a0 : Int} {r : ByteArray} (h : portolanref03_Parts a0 = some r) :
  Valid (Lx γ) 52 [vint .i64 a0] ob (vstr r) ob := by
 refine valid_X (lx_ok γ) (fn := Tryd.f52) (rs := [.tmp 2]) Tryd.func52 (by kernel_rfl) rfl rfl Tryd.ntmps52 rfl (by simp) fun hb hob => ?_
 rw [portolanref03_Parts] at h
 refine X_sr (lx_ok γ) ?_
 simp -implicitDefEqProofs only [go_sem, seval]
 refine X_seq ?_
 refine X_sr (lx_ok γ) ?_
 simp -implicitDefEqProofs only [go_sem, seval]
 refine X_block ?_
 refine X_sr (lx_ok γ) ?_
 simp -implicitDefEqProofs only [go_sem, seval]
 cases f1 : (a0 == 1)
 ·rw [if_neg (nF f1)] at h
  refine X_cond (lx_ok γ) ?_
  simp -implicitDefEqProofs only [go_sem, seval, f1]
  refine X_seq ?_
  refine X_jq (J := fun as1 ob1 => ∃ (x3 : Bool), portolanref03_Parts.j1 a0 x3 = some r ∧ [(3, vint .i64 a0), (6, vbool x3)] = as1 ∧ ob = ob1) ?_ ?_
  ·rintro as1 ob1 ⟨x3, h, rfl, rfl⟩
   rw [portolanref03_Parts.j1] at h
   simp -implicitDefEqProofs only [go_sem, seval, f1]
   cases f2 : x3
   ·rw [if_neg (nF f2)] at h
    refine X_cond (lx_ok γ) ?_
    simp -implicitDefEqProofs only [go_sem, seval, f1, f2]
    refine X_seq ?_
    refine X_jq (J := fun as1 ob1 => ∃ (x8 : Bool), portolanref03_Parts.j2 a0 x8 = some r ∧ [(3, vint .i64 a0), (10, vbool x8)] = as1 ∧ ob = ob1) ?_ ?_
    ·rintro as1 ob1 ⟨x8, h, rfl, rfl⟩
     rw [portolanref03_Parts.j2] at h
     simp -implicitDefEqProofs only [go_sem, seval, f1, f2]
     cases f3 : x8
     ·rw [if_neg (nF f3)] at h
      refine X_cond (lx_ok γ) ?_
      simp -implicitDefEqProofs only [go_sem, seval, f1, f2, f3]
      refine X_sr (lx_ok γ) ?_
      simp -implicitDefEqProofs only [go_sem, seval, f1, f2, f3]
      cases f4 : (a0 == 7)
      ·rw [if_neg (nF f4)] at h
       refine X_cond (lx_ok γ) ?_
       simp -implicitDefEqProofs only [go_sem, seval, f1, f2, f3, f4]
       refine X_sr (lx_ok γ) ?_
       simp -implicitDefEqProofs only [go_sem, seval, f1, f2, f3, f4]
       cases f5 : (a0 == 10)
       ·rw [if_neg (nF f5)] at h
        refine X_cond (lx_ok γ) ?_
        simp -implicitDefEqProofs only [go_sem, seval, f1, f2, f3, f4, f5]
        refine X_seq ?_
        refine X_jq (J := fun as1 ob1 => ∃ (x11 : Bool), portolanref03_Parts.j3 a0 x11 = some r ∧ [(3, vint .i64 a0), (20, vbool x11)] = as1 ∧ ob = ob1) ?_ ?_
        ·rintro as1 ob1 ⟨x11, h, rfl, rfl⟩
         rw [portolanref03_Parts.j3] at h
         simp -implicitDefEqProofs only [go_sem, seval, f1, f2, f3, f4, f5]
         cases f6 : x11
         ·rw [if_neg (nF f6)] at h
          refine X_cond (lx_ok γ) ?_
          simp -implicitDefEqProofs only [go_sem, seval, f1, f2, f3, f4, f5, f6]
          refine X_seq ?_
          refine X_jq (J := fun as1 ob1 => ∃ (x13 : Bool), portolanref03_Parts.j4 a0 x13 = some r ∧ [(3, vint .i64 a0), (24, vbool x13)] = as1 ∧ ob = ob1) ?_ ?_
          ·rintro as1 ob1 ⟨x13, h, rfl, rfl⟩
           rw [portolanref03_Parts.j4] at h
           simp -implicitDefEqProofs only [go_sem, seval, f1, f2, f3, f4, f5, f6]
           cases f7 : x13
           ·rw [if_neg (nF f7)] at h
            refine X_cond (lx_ok γ) ?_
            simp -implicitDefEqProofs only [go_sem, seval, f1, f2, f3, f4, f5, f6, f7]
            refine X_sr (lx_ok γ) ?_
            simp -implicitDefEqProofs only [go_sem, seval, f1, f2, f3, f4, f5, f6, f7]
            cases f8 : (a0 == 16)
            ·rw [if_neg (nF f8)] at h
             refine X_cond (lx_ok γ) ?_
             simp -implicitDefEqProofs only [go_sem, seval, f1, f2, f3, f4, f5, f6, f7, f8]
             refine X_sr (lx_ok γ) ?_
             simp -implicitDefEqProofs only [go_sem, seval, f1, f2, f3, f4, f5, f6, f7, f8]
             cases f9 : (a0 == 18)
             ·rw [if_neg (nF f9)] at h
              refine X_cond (lx_ok γ) ?_
              simp -implicitDefEqProofs only [go_sem, seval, f1, f2, f3, f4, f5, f6, f7, f8, f9]
              refine X_sr (lx_ok γ) ?_
              simp -implicitDefEqProofs only [go_sem, seval, f1, f2, f3, f4, f5, f6, f7, f8, f9]
              cases f10 : (a0 == 19)
              ·rw [if_neg (nF f10)] at h
               refine X_cond (lx_ok γ) ?_
               simp -implicitDefEqProofs only [go_sem, seval, f1, f2, f3, f4, f5, f6, f7, f8, f9, f10]
               refine X_seq ?_
               refine X_jq (J := fun as1 ob1 => ∃ (x15 : Bool), portolanref03_Parts.j5 a0 x15 = some r ∧ [(3, vint .i64 a0), (33, vbool x15)] = as1 ∧ ob = ob1) ?_ ?_
               ·rintro as1 ob1 ⟨x15, h, rfl, rfl⟩
                rw [portolanref03_Parts.j5] at h
                simp -implicitDefEqProofs only [go_sem, seval, f1, f2, f3, f4, f5, f6, f7, f8, f9, f10]
                cases f11 : x15
                ·rw [if_neg (nF f11)] at h
                 refine X_cond (lx_ok γ) ?_
                 simp -implicitDefEqProofs only [go_sem, seval, f1, f2, f3, f4, f5, f6, f7, f8, f9, f10, f11]
                 refine X_sr (lx_ok γ) ?_
                 simp -implicitDefEqProofs only [go_sem, seval, f1, f2, f3, f4, f5, f6, f7, f8, f9, f10, f11]
                 cases f12 : (a0 == 21)
                 ·rw [if_neg (nF f12)] at h
                  refine X_cond (lx_ok γ) ?_
                  simp -implicitDefEqProofs only [go_sem, seval, f1, f2, f3, f4, f5, f6, f7, f8, f9, f10, f11, f12]
                  refine X_sr (lx_ok γ) ?_
                  simp -implicitDefEqProofs only [go_sem, seval, f1, f2, f3, f4, f5, f6, f7, f8, f9, f10, f11, f12]
                  cases f13 : (a0 == 22)
                  ·rw [if_neg (nF f13)] at h
                   refine X_cond (lx_ok γ) ?_
                   simp -implicitDefEqProofs only [go_sem, seval, f1, f2, f3, f4, f5, f6, f7, f8, f9, f10, f11, f12, f13]
                   refine X_skip ?_
                   try simp -implicitDefEqProofs only [go_sem]
                   refine X_sr (lx_ok γ) ?_
                   simp -implicitDefEqProofs only [go_sem, seval, f1, f2, f3, f4, f5, f6, f7, f8, f9, f10, f11, f12, f13]
                   obtain rfl := sI h
                   refine X_ret ?_
                   simp -implicitDefEqProofs only [go_sem, seval, f1, f2, f3, f4, f5, f6, f7, f8, f9, f10, f11, f12, f13]
                   exact Rt.mv1 (BaseR.refl hob) (by simp) (vS)
                  ·rw [if_pos f13] at h
                   refine X_cond (lx_ok γ) ?_
                   simp -implicitDefEqProofs only [go_sem, seval, f1, f2, f3, f4, f5, f6, f7, f8, f9, f10, f11, f12, f13]
                   refine X_sr (lx_ok γ) ?_
                   simp -implicitDefEqProofs only [go_sem, seval, f1, f2, f3, f4, f5, f6, f7, f8, f9, f10, f11, f12, f13]
                   obtain rfl := sI h
                   refine X_ret ?_
                   simp -implicitDefEqProofs only [go_sem, seval, f1, f2, f3, f4, f5, f6, f7, f8, f9, f10, f11, f12, f13]
                   exact Rt.mv1 (BaseR.refl hob) (by simp) (vS)
                 ·rw [if_pos f12] at h
                  refine X_cond (lx_ok γ) ?_
                  simp -implicitDefEqProofs only [go_sem, seval, f1, f2, f3, f4, f5, f6, f7, f8, f9, f10, f11, f12]
                  refine X_sr (lx_ok γ) ?_
                  simp -implicitDefEqProofs only [go_sem, seval, f1, f2, f3, f4, f5, f6, f7, f8, f9, f10, f11, f12]
                  obtain rfl := sI h
                  refine X_ret ?_
                  simp -implicitDefEqProofs only [go_sem, seval, f1, f2, f3, f4, f5, f6, f7, f8, f9, f10, f11, f12]
                  exact Rt.mv1 (BaseR.refl hob) (by simp) (vS)
                ·rw [if_pos f11] at h
                 refine X_cond (lx_ok γ) ?_
                 simp -implicitDefEqProofs only [go_sem, seval, f1, f2, f3, f4, f5, f6, f7, f8, f9, f10, f11]
                 refine X_sr (lx_ok γ) ?_
                 simp -implicitDefEqProofs only [go_sem, seval, f1, f2, f3, f4, f5, f6, f7, f8, f9, f10, f11]
                 obtain rfl := sI h
                 refine X_ret ?_
                 simp -implicitDefEqProofs only [go_sem, seval, f1, f2, f3, f4, f5, f6, f7, f8, f9, f10, f11]
                 exact Rt.mv1 (BaseR.refl hob) (by simp) (vS)
               ·refine X_sr (lx_ok γ) ?_
                simp -implicitDefEqProofs only [go_sem, seval, f1, f2, f3, f4, f5, f6, f7, f8, f9, f10]
                cases f14 : (a0 == 20)
                ·rw [if_neg (nF f14)] at h
                 refine X_cond (lx_ok γ) ?_
                 simp -implicitDefEqProofs only [go_sem, seval, f1, f2, f3, f4, f5, f6, f7, f8, f9, f10, f14]
                 refine X_reg (lx_ok γ) ?_
                 simp -implicitDefEqProofs only [go_sem, seval, f1, f2, f3, f4, f5, f6, f7, f8, f9, f10, f14]
                 refine kJ_in ?_ ⟨(a0 == 23), h, rfl, rfl⟩
                 exact To.mv1 (BaseR.refl hob) (by simp) (by simp only [go_sem]; exact ⟨vS, vS⟩)
                ·rw [if_pos f14] at h
                 refine X_cond (lx_ok γ) ?_
                 simp -implicitDefEqProofs only [go_sem, seval, f1, f2, f3, f4, f5, f6, f7, f8, f9, f10, f14]
                 refine X_skip ?_
                 try simp -implicitDefEqProofs only [go_sem]
                 refine kJ_in ?_ ⟨true, h, rfl, rfl⟩
                 exact To.mv1 (BaseR.refl hob) (by simp) (by simp only [go_sem]; exact ⟨vS, vS⟩)
              ·rw [if_pos f10] at h
               refine X_cond (lx_ok γ) ?_
               simp -implicitDefEqProofs only [go_sem, seval, f1, f2, f3, f4, f5, f6, f7, f8, f9, f10]
               refine X_sr (lx_ok γ) ?_
               simp -implicitDefEqProofs only [go_sem, seval, f1, f2, f3, f4, f5, f6, f7, f8, f9, f10]
               obtain rfl := sI h
               refine X_ret ?_
               simp -implicitDefEqProofs only [go_sem, seval, f1, f2, f3, f4, f5, f6, f7, f8, f9, f10]
               exact Rt.mv1 (BaseR.refl hob) (by simp) (vS)
             ·rw [if_pos f9] at h
              refine X_cond (lx_ok γ) ?_
              simp -implicitDefEqProofs only [go_sem, seval, f1, f2, f3, f4, f5, f6, f7, f8, f9]
              refine X_sr (lx_ok γ) ?_
              simp -implicitDefEqProofs only [go_sem, seval, f1, f2, f3, f4, f5, f6, f7, f8, f9]
              obtain rfl := sI h
              refine X_ret ?_
              simp -implicitDefEqProofs only [go_sem, seval, f1, f2, f3, f4, f5, f6, f7, f8, f9]
              exact Rt.mv1 (BaseR.refl hob) (by simp) (vS)
            ·rw [if_pos f8] at h
             refine X_cond (lx_ok γ) ?_
             simp -implicitDefEqProofs only [go_sem, seval, f1, f2, f3, f4, f5, f6, f7, f8]
             refine X_sr (lx_ok γ) ?_
             simp -implicitDefEqProofs only [go_sem, seval, f1, f2, f3, f4, f5, f6, f7, f8]
             obtain rfl := sI h
             refine X_ret ?_
             simp -implicitDefEqProofs only [go_sem, seval, f1, f2, f3, f4, f5, f6, f7, f8]
             exact Rt.mv1 (BaseR.refl hob) (by simp) (vS)
           ·rw [if_pos f7] at h
            refine X_cond (lx_ok γ) ?_
            simp -implicitDefEqProofs only [go_sem, seval, f1, f2, f3, f4, f5, f6, f7]
            refine X_sr (lx_ok γ) ?_
            simp -implicitDefEqProofs only [go_sem, seval, f1, f2, f3, f4, f5, f6, f7]
            obtain rfl := sI h
            refine X_ret ?_
            simp -implicitDefEqProofs only [go_sem, seval, f1, f2, f3, f4, f5, f6, f7]
            exact Rt.mv1 (BaseR.refl hob) (by simp) (vS)
          ·refine X_sr (lx_ok γ) ?_
           simp -implicitDefEqProofs only [go_sem, seval, f1, f2, f3, f4, f5, f6]
           cases f15 : (a0 == 12)
           ·rw [if_neg (nF f15)] at h
            refine X_cond (lx_ok γ) ?_
            simp -implicitDefEqProofs only [go_sem, seval, f1, f2, f3, f4, f5, f6, f15]
            refine X_reg (lx_ok γ) ?_
            simp -implicitDefEqProofs only [go_sem, seval, f1, f2, f3, f4, f5, f6, f15]
            refine kJ_in ?_ ⟨(a0 == 14), h, rfl, rfl⟩
            exact To.mv1 (BaseR.refl hob) (by simp) (by simp only [go_sem]; exact ⟨vS, vS⟩)
           ·rw [if_pos f15] at h
            refine X_cond (lx_ok γ) ?_
            simp -implicitDefEqProofs only [go_sem, seval, f1, f2, f3, f4, f5, f6, f15]
            refine X_skip ?_
            try simp -implicitDefEqProofs only [go_sem]
            refine kJ_in ?_ ⟨true, h, rfl, rfl⟩
            exact To.mv1 (BaseR.refl hob) (by simp) (by simp only [go_sem]; exact ⟨vS, vS⟩)
         ·rw [if_pos f6] at h
          refine X_cond (lx_ok γ) ?_
          simp -implicitDefEqProofs only [go_sem, seval, f1, f2, f3, f4, f5, f6]
          refine X_sr (lx_ok γ) ?_
          simp -implicitDefEqProofs only [go_sem, seval, f1, f2, f3, f4, f5, f6]
          obtain rfl := sI h
          refine X_ret ?_
          simp -implicitDefEqProofs only [go_sem, seval, f1, f2, f3, f4, f5, f6]
          exact Rt.mv1 (BaseR.refl hob) (by simp) (vS)
        ·refine X_sr (lx_ok γ) ?_
         simp -implicitDefEqProofs only [go_sem, seval, f1, f2, f3, f4, f5]
         cases f16 : (a0 == 11)
         ·rw [if_neg (nF f16)] at h
          refine X_cond (lx_ok γ) ?_
          simp -implicitDefEqProofs only [go_sem, seval, f1, f2, f3, f4, f5, f16]
          refine X_sr (lx_ok γ) ?_
          simp -implicitDefEqProofs only [go_sem, seval, f1, f2, f3, f4, f5, f16]
          cases f17 : (a0 == 13)
          ·rw [if_neg (nF f17)] at h
           refine X_cond (lx_ok γ) ?_
           simp -implicitDefEqProofs only [go_sem, seval, f1, f2, f3, f4, f5, f16, f17]
           refine X_reg (lx_ok γ) ?_
           simp -implicitDefEqProofs only [go_sem, seval, f1, f2, f3, f4, f5, f16, f17]
           refine kJ_in ?_ ⟨(a0 == 15), h, rfl, rfl⟩
           exact To.mv1 (BaseR.refl hob) (by simp) (by simp only [go_sem]; exact ⟨vS, vS⟩)
          ·rw [if_pos f17] at h
           refine X_cond (lx_ok γ) ?_
           simp -implicitDefEqProofs only [go_sem, seval, f1, f2, f3, f4, f5, f16, f17]
           refine X_skip ?_
           try simp -implicitDefEqProofs only [go_sem]
           refine kJ_in ?_ ⟨true, h, rfl, rfl⟩
           exact To.mv1 (BaseR.refl hob) (by simp) (by simp only [go_sem]; exact ⟨vS, vS⟩)
         ·rw [if_pos f16] at h
          refine X_cond (lx_ok γ) ?_
          simp -implicitDefEqProofs only [go_sem, seval, f1, f2, f3, f4, f5, f16]
          refine X_skip ?_
          try simp -implicitDefEqProofs only [go_sem]
          refine kJ_in ?_ ⟨true, h, rfl, rfl⟩
          exact To.mv1 (BaseR.refl hob) (by simp) (by simp only [go_sem]; exact ⟨vS, vS⟩)
       ·rw [if_pos f5] at h
        refine X_cond (lx_ok γ) ?_
        simp -implicitDefEqProofs only [go_sem, seval, f1, f2, f3, f4, f5]
        refine X_sr (lx_ok γ) ?_
        simp -implicitDefEqProofs only [go_sem, seval, f1, f2, f3, f4, f5]
        obtain rfl := sI h
        refine X_ret ?_
        simp -implicitDefEqProofs only [go_sem, seval, f1, f2, f3, f4, f5]
        exact Rt.mv1 (BaseR.refl hob) (by simp) (vS)
      ·rw [if_pos f4] at h
       refine X_cond (lx_ok γ) ?_
       simp -implicitDefEqProofs only [go_sem, seval, f1, f2, f3, f4]
       refine X_sr (lx_ok γ) ?_
       simp -implicitDefEqProofs only [go_sem, seval, f1, f2, f3, f4]
       obtain rfl := sI h
       refine X_ret ?_
       simp -implicitDefEqProofs only [go_sem, seval, f1, f2, f3, f4]
       exact Rt.mv1 (BaseR.refl hob) (by simp) (vS)
     ·rw [if_pos f3] at h
      refine X_cond (lx_ok γ) ?_
      simp -implicitDefEqProofs only [go_sem, seval, f1, f2, f3]
      refine X_sr (lx_ok γ) ?_
      simp -implicitDefEqProofs only [go_sem, seval, f1, f2, f3]
      obtain rfl := sI h
      refine X_ret ?_
      simp -implicitDefEqProofs only [go_sem, seval, f1, f2, f3]
      exact Rt.mv1 (BaseR.refl hob) (by simp) (vS)
    ·refine X_sr (lx_ok γ) ?_
     simp -implicitDefEqProofs only [go_sem, seval, f1, f2]
     cases f18 : (a0 == 3)
     ·rw [if_neg (nF f18)] at h
      refine X_cond (lx_ok γ) ?_
      simp -implicitDefEqProofs only [go_sem, seval, f1, f2, f18]
      refine X_sr (lx_ok γ) ?_
      simp -implicitDefEqProofs only [go_sem, seval, f1, f2, f18]
      cases f19 : (a0 == 4)
      ·rw [if_neg (nF f19)] at h
       refine X_cond (lx_ok γ) ?_
       simp -implicitDefEqProofs only [go_sem, seval, f1, f2, f18, f19]
       refine X_sr (lx_ok γ) ?_
       simp -implicitDefEqProofs only [go_sem, seval, f1, f2, f18, f19]
       cases f20 : (a0 == 5)
       ·rw [if_neg (nF f20)] at h
        refine X_cond (lx_ok γ) ?_
        simp -implicitDefEqProofs only [go_sem, seval, f1, f2, f18, f19, f20]
        refine X_sr (lx_ok γ) ?_
        simp -implicitDefEqProofs only [go_sem, seval, f1, f2, f18, f19, f20]
        cases f21 : (a0 == 6)
        ·rw [if_neg (nF f21)] at h
         refine X_cond (lx_ok γ) ?_
         simp -implicitDefEqProofs only [go_sem, seval, f1, f2, f18, f19, f20, f21]
         refine X_reg (lx_ok γ) ?_
         simp -implicitDefEqProofs only [go_sem, seval, f1, f2, f18, f19, f20, f21]
         refine kJ_in ?_ ⟨(a0 == 9), h, rfl, rfl⟩
         exact To.mv1 (BaseR.refl hob) (by simp) (by simp only [go_sem]; exact ⟨vS, vS⟩)
        ·rw [if_pos f21] at h
         refine X_cond (lx_ok γ) ?_
         simp -implicitDefEqProofs only [go_sem, seval, f1, f2, f18, f19, f20, f21]
         refine X_skip ?_
         try simp -implicitDefEqProofs only [go_sem]
         refine kJ_in ?_ ⟨true, h, rfl, rfl⟩
         exact To.mv1 (BaseR.refl hob) (by simp) (by simp only [go_sem]; exact ⟨vS, vS⟩)
       ·rw [if_pos f20] at h
        refine X_cond (lx_ok γ) ?_
        simp -implicitDefEqProofs only [go_sem, seval, f1, f2, f18, f19, f20]
        refine X_skip ?_
        try simp -implicitDefEqProofs only [go_sem]
        refine kJ_in ?_ ⟨true, h, rfl, rfl⟩
        exact To.mv1 (BaseR.refl hob) (by simp) (by simp only [go_sem]; exact ⟨vS, vS⟩)
      ·rw [if_pos f19] at h
       refine X_cond (lx_ok γ) ?_
       simp -implicitDefEqProofs only [go_sem, seval, f1, f2, f18, f19]
       refine X_skip ?_
       try simp -implicitDefEqProofs only [go_sem]
       refine kJ_in ?_ ⟨true, h, rfl, rfl⟩
       exact To.mv1 (BaseR.refl hob) (by simp) (by simp only [go_sem]; exact ⟨vS, vS⟩)
     ·rw [if_pos f18] at h
      refine X_cond (lx_ok γ) ?_
      simp -implicitDefEqProofs only [go_sem, seval, f1, f2, f18]
      refine X_skip ?_
      try simp -implicitDefEqProofs only [go_sem]
      refine kJ_in ?_ ⟨true, h, rfl, rfl⟩
      exact To.mv1 (BaseR.refl hob) (by simp) (by simp only [go_sem]; exact ⟨vS, vS⟩)
   ·rw [if_pos f2] at h
    refine X_cond (lx_ok γ) ?_
    simp -implicitDefEqProofs only [go_sem, seval, f1, f2]
    refine X_sr (lx_ok γ) ?_
    simp -implicitDefEqProofs only [go_sem, seval, f1, f2]
    obtain rfl := sI h
    refine X_ret ?_
    simp -implicitDefEqProofs only [go_sem, seval, f1, f2]
    exact Rt.mv1 (BaseR.refl hob) (by simp) (vS)
  ·refine X_sr (lx_ok γ) ?_
   simp -implicitDefEqProofs only [go_sem, seval, f1]
   cases f22 : (a0 == 2)
   ·rw [if_neg (nF f22)] at h
    refine X_cond (lx_ok γ) ?_
    simp -implicitDefEqProofs only [go_sem, seval, f1, f22]
    refine X_sr (lx_ok γ) ?_
    simp -implicitDefEqProofs only [go_sem, seval, f1, f22]
    cases f23 : (a0 == 8)
    ·rw [if_neg (nF f23)] at h
     refine X_cond (lx_ok γ) ?_
     simp -implicitDefEqProofs only [go_sem, seval, f1, f22, f23]
     refine X_reg (lx_ok γ) ?_
     simp -implicitDefEqProofs only [go_sem, seval, f1, f22, f23]
     refine kJ_in ?_ ⟨(a0 == 17), h, rfl, rfl⟩
     exact To.mv1 (BaseR.refl hob) (by simp) (by simp only [go_sem]; exact ⟨vS, vS⟩)
    ·rw [if_pos f23] at h
     refine X_cond (lx_ok γ) ?_
     simp -implicitDefEqProofs only [go_sem, seval, f1, f22, f23]
     refine X_skip ?_
     try simp -implicitDefEqProofs only [go_sem]
     refine kJ_in ?_ ⟨true, h, rfl, rfl⟩
     exact To.mv1 (BaseR.refl hob) (by simp) (by simp only [go_sem]; exact ⟨vS, vS⟩)
   ·rw [if_pos f22] at h
    refine X_cond (lx_ok γ) ?_
    simp -implicitDefEqProofs only [go_sem, seval, f1, f22]
    refine X_skip ?_
    try simp -implicitDefEqProofs only [go_sem]
    refine kJ_in ?_ ⟨true, h, rfl, rfl⟩
    exact To.mv1 (BaseR.refl hob) (by simp) (by simp only [go_sem]; exact ⟨vS, vS⟩)
 ·rw [if_pos f1] at h
  refine X_cond (lx_ok γ) ?_
  simp -implicitDefEqProofs only [go_sem, seval, f1]
  refine X_sr (lx_ok γ) ?_
  simp -implicitDefEqProofs only [go_sem, seval, f1]
  obtain rfl := sI h
  refine X_ret ?_
  simp -implicitDefEqProofs only [go_sem, seval, f1]
  exact Rt.mv1 (BaseR.refl hob) (by simp) (vS)
end Go.Pf
end
section
set_option maxRecDepth 100000
namespace Go.Pf
open Go Go.Ab Go.Pp Go.Proofs Go.Proofs.S04
attribute [local go_sem] Lxτ Lxγ gam0 Int.toNat_natCast tau3 tau5 tau9 eI eB eS e_Ins e_Block e_Func e_Prog e_code_writer e_code_reader e_Edge
set_option maxHeartbeats 1000000 in
theorem portolanref04_has_ok (γ : GT) (ob : OT) {a0 : Int} {a1 : Int} {r : Bool} (h : portolanref04_has a0 a1 = some r) :
  Valid (Lx γ) 45 [vint .i64 a0, vint .u8 a1] ob (vbool r) ob := by
 refine valid_X (lx_ok γ) (fn := Tryd.f45) (rs := [.tmp 4]) Tryd.func45 (by kernel_rfl) rfl rfl Tryd.ntmps45 rfl (by simp) fun hb hob => ?_
 rw [portolanref04_has] at h
 refine X_sr (lx_ok γ) ?_
 simp -implicitDefEqProofs only [go_sem, seval]
 refine X_sr (lx_ok γ) ?_
 obtain ⟨x1, f1, h⟩ := bindE h
 simp -implicitDefEqProofs only [go_sem, seval]
 refine callV_eq (portolanref03_Parts_ok γ _  f1) rfl rfl ?_
 simp -implicitDefEqProofs only [go_sem, seval]
 refine X_seq ?_
 refine X_sr (lx_ok γ) ?_
 simp -implicitDefEqProofs only [go_sem, seval]
 refine X_jq (J := fun as1 ob1 => portolanref04_has.k1 = some r ∧ [] = as1 ∧ ob = ob1) ?_ ?_
 ·rintro as1 ob1 ⟨h, rfl, rfl⟩
  rw [portolanref04_has.k1] at h
  simp -implicitDefEqProofs only [go_sem, seval]
  refine X_sr (lx_ok γ) ?_
  simp -implicitDefEqProofs only [go_sem, seval]
  obtain rfl := sI h
  refine X_ret ?_
  simp -implicitDefEqProofs only [go_sem, seval]
  exact Rt.mv1 (BaseR.refl hob) (by simp) (vS)
 ·refine X_block ?_
  obtain ⟨lr1, hl1, hk1, hr1⟩ := aft2 h
  refine X_forN hl1 (fun (i1 : Nat) (s : Unit) as1 ob1 => [(1, vint .u8 a1), (5, vstr x1), (6, vint .i64 (i1 : Int))] = as1 ∧ ob = ob1) ⟨_, _, ?_, rfl, rfl⟩ ?_ ?_
  ·exact To.mv1 (BaseR.refl hob) (by simp) (by simp only [go_sem]; exact ⟨vS, vS, VM.eqv (by simp) (by simp)⟩)
  ·rintro i1 _ o1 hi1 hw1 h ho1 as1 ob1 ⟨rfl, rfl⟩
   rw [portolanref04_has.b1] at h
   refine X_seq ?_
   refine X_sr (lx_ok γ) ?_
   simp -implicitDefEqProofs only [go_sem, seval, hi1]
   refine X_cond (lx_ok γ) ?_
   simp -implicitDefEqProofs only [go_sem, seval, hi1]
   refine X_skip ?_
   try simp -implicitDefEqProofs only [go_sem]
   refine X_seq ?_
   refine X_block ?_
   refine X_sr (lx_ok γ) ?_
   obtain ⟨x3, f2, h⟩ := bindE h
   obtain ⟨f3, f4, f5, f6⟩ := ixS_some f2
   try simp only [Int.toNat_natCast, Int.reduceToNat] at f5
   replace f6 := f6.symm
   simp -implicitDefEqProofs only [go_sem, seval, hi1, f3, f5, f6]
   cases f7 : (x3 == a1)
   ·rw [if_neg (nF f7)] at h
    refine X_cond (lx_ok γ) ?_
    simp -implicitDefEqProofs only [go_sem, seval, hi1, f7, f3, f5, f6]
    refine X_skip ?_
    try simp -implicitDefEqProofs only [go_sem]
    refine X_reg (lx_ok γ) ?_
    obtain rfl := sI h
    simp -implicitDefEqProofs only [go_sem, seval, hi1, f7]
    refine kR_in rfl ?_ ⟨rfl, rfl⟩
    exact To.mv1 (BaseR.refl hob) (by simp) (by simp only [go_sem]; exact ⟨vS, vS, VM.eqv (by rw [hw1]) (by simp)⟩)
   ·rw [if_pos f7] at h
    refine X_cond (lx_ok γ) ?_
    simp -implicitDefEqProofs only [go_sem, seval, hi1, f7, f3, f5, f6]
    refine X_sr (lx_ok γ) ?_
    simp -implicitDefEqProofs only [go_sem, seval, hi1, f7]
    obtain rfl := sI h
    have h := hr1 _ (ho1 (fun _ hs => nomatch hs))
    obtain rfl := sI h
    refine X_ret ?_
    simp -implicitDefEqProofs only [go_sem, seval, hi1, f7]
    exact Rt.mv1 (BaseR.refl hob) (by simp) (vS)
  ·rintro i1 _ hi1 hn1 as1 ob1 ⟨rfl, rfl⟩
   refine X_seq ?_
   refine X_sr (lx_ok γ) ?_
   simp -implicitDefEqProofs only [go_sem, seval, hi1]
   refine X_cond (lx_ok γ) ?_
   simp -implicitDefEqProofs only [go_sem, seval, hi1]
   have h := hk1 _ (.inl hn1)
   refine X_exit ?_
   try simp -implicitDefEqProofs only [go_sem, ↓reduceIte, Nat.reduceEqDiff, reduceCtorEq]
   refine kJ_in ?_ ⟨h, rfl, rfl⟩
   exact To.mv1 (BaseR.refl hob) (by simp) trivial
end Go.Pf
end
section
set_option maxRecDepth 100000
namespace Go.Pf
open Go Go.Ab Go.Pp Go.Proofs Go.Proofs.S04
attribute [local go_sem] Lxτ Lxγ gam0 Int.toNat_natCast tau3 tau4 tau5 tau28 tau35 eI eB eS e_Ins e_Block e_Func e_Prog e_code_writer e_code_reader e_Edge
set_option maxHeartbeats 1000000 in
theorem portolanref04_Sets_ok (γ : GT) (ob : OT) {a0 : Ins} {v0_6 : V} (hv0_6 : rdK (getO ob) 1 v0_6 = some (List.map (eI .i64) a0.Args)) {r : Int × Bool} (h : portolanref04_Sets a0 = some r) :
  Valid (Lx γ) 16 [V.agg [vint .i64 a0.Op, vint .i64 a0.D, vint .i64 a0.A, vint .i64 a0.B, vint .i64 a0.N, vint .i64 a0.M, v0_6]] ob (V.tup [vint .i64 r.1, vbool r.2]) ob := by
 refine valid_X (lx_ok γ) (fn := Tryd.f16) (rs := [.tmp 2, .tmp 3]) Tryd.func16 (by kernel_rfl) rfl rfl Tryd.ntmps16 rfl (by simp) fun hb hob => ?_
 have hq := rd4 hv0_6
 rw [portolanref04_Sets] at h
 refine X_sr (lx_ok γ) ?_
 simp -implicitDefEqProofs only [go_sem, seval, hq]
 refine X_seq ?_
 refine X_sr (lx_ok γ) ?_
 obtain ⟨x1, f1, h⟩ := bindE h
 simp -implicitDefEqProofs only [go_sem, seval, hq]
 refine callV_eq (portolanref04_has_ok γ _  f1) rfl rfl ?_
 simp -implicitDefEqProofs only [go_sem, seval, hq]
 cases f2 : x1
 ·rw [if_neg (nF f2)] at h
  refine X_cond (lx_ok γ) ?_
  simp -implicitDefEqProofs only [go_sem, seval, f2, hq]
  refine X_sr (lx_ok γ) ?_
  simp -implicitDefEqProofs only [go_sem, seval, f2, hq]
  obtain rfl := sI h
  refine X_ret ?_
  simp -implicitDefEqProofs only [go_sem, seval, f2, hq]
  exact Rt.mv0 (BaseR.refl hob) (by simp) (VM.tup ⟨vS, vS, trivial⟩)
 ·rw [if_pos f2] at h
  refine X_cond (lx_ok γ) ?_
  simp -implicitDefEqProofs only [go_sem, seval, f2, hq]
  refine X_skip ?_
  try simp -implicitDefEqProofs only [go_sem]
  refine X_sr (lx_ok γ) ?_
  simp -implicitDefEqProofs only [go_sem, seval, f2, hq]
  obtain rfl := sI h
  refine X_ret ?_
  simp -implicitDefEqProofs only [go_sem, seval, f2, hq]
  exact Rt.mv0 (BaseR.refl hob) (by simp) (VM.tup ⟨vS, vS, trivial⟩)
end Go.Pf
end
section
set_option maxRecDepth 100000
namespace Go.Pf
open Go Go.Ab Go.Pp Go.Proofs Go.Proofs.S04
attribute [local go_sem] Lxτ Lxγ gam0 Int.toNat_natCast tau3 tau5 tau28 tau35 eI eB eS e_Ins e_Block e_Func e_Prog e_code_writer e_code_reader e_Edge
set_option maxHeartbeats 1000000 in
theorem portolanref04_Uses_ok (γ : GT) (ob : OT) {a0 : Ins} {v0_6 : V} (hv0_6 : rdK (getO ob) 1 v0_6 = some (List.map (eI .i64) a0.Args)) {r : List Int} (h : portolanref04_Uses a0 = some r) :
  Valid (Lx γ) 23 [V.agg [vint .i64 a0.Op, vint .i64 a0.D, vint .i64 a0.A, vint .i64 a0.B, vint .i64 a0.N, vint .i64 a0.M, v0_6]] ob (V.row ob.length 0 0 (List.length r)) (ob ++ [some (O.row 1 0 (List.map (eI .i64) r))]) := by
 refine valid_X (lx_ok γ) (fn := Tryd.f23) (rs := [.tmp 2]) Tryd.func23 (by kernel_rfl) rfl rfl Tryd.ntmps23 rfl (by simp) fun hb hob => ?_
 have hq := rd4 hv0_6
 rw [portolanref04_Uses] at h
 refine X_sr (lx_ok γ) ?_
 simp -implicitDefEqProofs only [go_sem, seval, hq]
 refine X_sr (lx_ok γ) ?_
 simp -implicitDefEqProofs only [go_sem, seval, hq]
 refine X_seq ?_
 refine X_jq (J := fun as1 ob1 => ∃ (x1 : List Int), portolanref04_Uses.j1 a0 x1 = some r ∧ [(1, V.ref ob.length 0), (3, V.row (ob.length + 1) 0 0 (List.length x1))] = as1 ∧ ob ++ [some (O.box [vint .i64 a0.Op, vint .i64 a0.D, vint .i64 a0.A, vint .i64 a0.B, vint .i64 a0.N, vint .i64 a0.M, v0_6]), some (O.row 1 0 (List.map (eI .i64) x1))] = ob1) ?_ ?_
 ·rintro as1 ob1 ⟨x1, h, rfl, rfl⟩
  rw [portolanref04_Uses.j1] at h
  simp -implicitDefEqProofs only [go_sem, seval, hq]
  refine X_seq ?_
  refine X_jq (J := fun as1 ob1 => ∃ (x2 : List Int), portolanref04_Uses.j2 a0 x2 = some r ∧ [(1, V.ref ob.length 0), (3, V.row (ob.length + 1) 0 0 (List.length x2))] = as1 ∧ ob ++ [some (O.box [vint .i64 a0.Op, vint .i64 a0.D, vint .i64 a0.A, vint .i64 a0.B, vint .i64 a0.N, vint .i64 a0.M, v0_6]), some (O.row 1 0 (List.map (eI .i64) x2))] = ob1) ?_ ?_
  ·rintro as1 ob1 ⟨x2, h, rfl, rfl⟩
   rw [portolanref04_Uses.j2] at h
   simp -implicitDefEqProofs only [go_sem, seval, hq]
   refine X_seq ?_
   refine X_sr (lx_ok γ) ?_
   obtain ⟨x3, f1, h⟩ := bindE h
   simp -implicitDefEqProofs only [go_sem, seval, hq]
   refine callV_eq (portolanref04_has_ok γ _  f1) rfl rfl ?_
   simp -implicitDefEqProofs only [go_sem, seval, hq]
   cases f2 : x3
   ·rw [if_neg (nF f2)] at h
    refine X_cond (lx_ok γ) ?_
    simp -implicitDefEqProofs only [go_sem, seval, f2, hq]
    refine X_skip ?_
    try simp -implicitDefEqProofs only [go_sem]
    refine X_sr (lx_ok γ) ?_
    simp -implicitDefEqProofs only [go_sem, seval, f2, hq]
    obtain rfl := sI h
    refine X_ret ?_
    simp -implicitDefEqProofs only [go_sem, seval, f2, hq]
    exact Rt.mv [(1, 0)] (BaseR.refl hob) (by simp) (by decide) (VM.rowL (j := 1) (t := 0) rfl (by first | rfl | simp | simp_all | omega)) ⟨⟨_, rfl, OM.row' (by first | rfl | simp_all)⟩, trivial⟩
   ·rw [if_pos f2] at h
    refine X_cond (lx_ok γ) ?_
    simp -implicitDefEqProofs only [go_sem, seval, f2, hq]
    refine X_reg (lx_ok γ) ?_
    obtain ⟨x4, f3, h⟩ := bindE h
    have f4 : List.length x4 * 8 ≤ 140737488355328 := by have := (appL_some f3).1; rw [(appL_some f3).2]; simpa using this
    have f5 : List.map (eI .i64) x2 ++ List.map (eI .i64) a0.Args = List.map (eI .i64) x4 := by rw [(appL_some f3).2]; simp [eB, eI, eS]
    have f6 : List.length x2 + List.length a0.Args = List.length x4 := by rw [(appL_some f3).2]; simp
    simp -implicitDefEqProofs only [go_sem, seval, f2, hq, f4, f5, f6]
    refine X_sr (lx_ok γ) ?_
    simp -implicitDefEqProofs only [go_sem, seval, f2, hq]
    obtain rfl := sI h
    refine X_ret ?_
    simp -implicitDefEqProofs only [go_sem, seval, f2, hq]
    exact Rt.mv [(1, 1)] (BaseR.refl hob) (by simp) (by decide) (VM.rowL (j := 1) (t := 0) rfl (by first | rfl | simp | simp_all | omega)) ⟨⟨_, rfl, OM.row' (by first | rfl | simp_all)⟩, trivial⟩
  ·refine X_sr (lx_ok γ) ?_
   obtain ⟨x5, f7, h⟩ := bindE h
   simp -implicitDefEqProofs only [go_sem, seval, hq]
   refine callV_eq (portolanref04_has_ok γ _  f7) rfl rfl ?_
   simp -implicitDefEqProofs only [go_sem, seval, hq]
   cases f8 : x5
   ·rw [if_neg (nF f8)] at h
    refine X_cond (lx_ok γ) ?_
    simp -implicitDefEqProofs only [go_sem, seval, f8, hq]
    refine X_skip ?_
    try simp -implicitDefEqProofs only [go_sem]
    refine kJ_in ?_ ⟨x1, h, rfl, rfl⟩
    exact To.mv [(0, 0), (1, 0)] (BaseR.refl hob) (by simp) (by decide) (by simp only [go_sem]; exact ⟨VM.refA (j := 0) (t := 0) rfl, VM.rowL (j := 1) (t := 1) rfl (by first | rfl | simp | simp_all | omega)⟩) ⟨⟨_, rfl, OM.box _ _ ⟨vS, vS, vS, vS, vS, vS, VM.self (by simpa using Bd.of_rdK hv0_6), trivial⟩⟩, ⟨_, rfl, OM.row' (by first | rfl | simp_all)⟩, trivial⟩
   ·rw [if_pos f8] at h
    refine X_cond (lx_ok γ) ?_
    simp -implicitDefEqProofs only [go_sem, seval, f8, hq]
    refine X_reg (lx_ok γ) ?_
    obtain ⟨x6, f9, h⟩ := bindE h
    have f10 : List.length x6 * 8 ≤ 140737488355328 := by have := (appL_some f9).1; rw [(appL_some f9).2]; simpa using this
    have f11 : List.map (eI .i64) x1 ++ [[.lit (.int .i64 a0.B)]] = List.map (eI .i64) x6 := by rw [(appL_some f9).2]; simp [eB, eI, eS]
    have f12 : List.length x1 + 1 = List.length x6 := by rw [(appL_some f9).2]; simp
    simp -implicitDefEqProofs only [go_sem, seval, f8, hq, f10, f11, f12]
    refine kJ_in ?_ ⟨x6, h, rfl, rfl⟩
    exact To.mv [(0, 0), (1, 1)] (BaseR.refl hob) (by simp) (by decide) (by simp only [go_sem]; exact ⟨VM.refA (j := 0) (t := 0) rfl, VM.rowL (j := 1) (t := 1) rfl (by first | rfl | simp | simp_all | omega)⟩) ⟨⟨_, rfl, OM.box _ _ ⟨vS, vS, vS, vS, vS, vS, VM.self (by simpa using Bd.of_rdK hv0_6), trivial⟩⟩, ⟨_, rfl, OM.row' (by first | rfl | simp_all)⟩, trivial⟩
 ·refine X_sr (lx_ok γ) ?_
  obtain ⟨x7, f13, h⟩ := bindE h
  simp -implicitDefEqProofs only [go_sem, seval, hq]
  refine callV_eq (portolanref04_has_ok γ _  f13) rfl rfl ?_
  simp -implicitDefEqProofs only [go_sem, seval, hq]
  cases f14 : x7
  ·rw [if_neg (nF f14)] at h
   refine X_cond (lx_ok γ) ?_
   simp -implicitDefEqProofs only [go_sem, seval, f14, hq]
   refine X_skip ?_
   try simp -implicitDefEqProofs only [go_sem]
   refine kJ_in ?_ ⟨[], h, rfl, rfl⟩
   exact To.trans (To.gh (as' := [(1, _), (3, V.row (ob.length + 1) 0 0 0)]) (l' := [some (O.box [_, _, _, _, _, _, _])]) 1 ⟨VG.refl _ _ _, VG.nilL, trivial⟩ ⟨Or.inl rfl, trivial⟩) (To.mv [(0, 0), (1, 0)] (BaseR.refl hob) (by simp) (by decide) (by simp only [go_sem]; exact ⟨VM.refA (j := 0) (t := 0) rfl, VM.rowL (j := 1) (t := 1) rfl (by simp)⟩) ⟨⟨_, rfl, OM.box _ _ ⟨vS, vS, vS, vS, vS, vS, VM.self (by simpa using Bd.of_rdK hv0_6), trivial⟩⟩, ⟨_, rfl, OM.row' rfl⟩, trivial⟩)
  ·rw [if_pos f14] at h
   refine X_cond (lx_ok γ) ?_
   simp -implicitDefEqProofs only [go_sem, seval, f14, hq]
   refine X_reg (lx_ok γ) ?_
   simp -implicitDefEqProofs only [go_sem, seval, f14, hq]
   refine kJ_in ?_ ⟨[a0.A], h, rfl, rfl⟩
   exact To.mv [(0, 0), (2, 0)] (BaseR.refl hob) (by simp) (by decide) (by simp only [go_sem]; exact ⟨VM.refA (j := 0) (t := 0) rfl, VM.rowL (j := 2) (t := 1) rfl (by first | rfl | simp | simp_all | omega)⟩) ⟨⟨_, rfl, OM.box _ _ ⟨vS, vS, vS, vS, vS, vS, VM.self (by simpa using Bd.of_rdK hv0_6), trivial⟩⟩, ⟨_, rfl, OM.row' (by first | rfl | simp_all)⟩, trivial⟩
end Go.Pf
end
section
set_option maxRecDepth 100000
namespace Go.Pf
open Go Go.Ab Go.Pp Go.Proofs Go.Proofs.S04
attribute [local go_sem] Lxτ Lxγ gam0 Int.toNat_natCast tau3 tau28 tau35 eI eB eS e_Ins e_Block e_Func e_Prog e_code_writer e_code_reader e_Edge
set_option maxHeartbeats 1000000 in
theorem portolanref04_Next_ok (γ : GT) (ob : OT) {a0 : Ins} {v0_6 : V} (hv0_6 : rdK (getO ob) 1 v0_6 = some (List.map (eI .i64) a0.Args)) {r : List Int} (h : portolanref04_Next a0 = some r) :
  Valid (Lx γ) 25 [V.agg [vint .i64 a0.Op, vint .i64 a0.D, vint .i64 a0.A, vint .i64 a0.B, vint .i64 a0.N, vint .i64 a0.M, v0_6]] ob (V.row ob.length 0 0 (List.length r)) (ob ++ [some (O.row 1 0 (List.map (eI .i64) r))]) := by
 refine valid_X (lx_ok γ) (fn := Tryd.f25) (rs := [.tmp 2]) Tryd.func25 (by kernel_rfl) rfl rfl Tryd.ntmps25 rfl (by simp) fun hb hob => ?_
 have hq := rd4 hv0_6
 rw [portolanref04_Next] at h
 refine X_sr (lx_ok γ) ?_
 simp -implicitDefEqProofs only [go_sem, seval, hq]
 refine X_seq ?_
 refine X_sr (lx_ok γ) ?_
 simp -implicitDefEqProofs only [go_sem, seval, hq]
 refine X_block ?_
 refine X_sr (lx_ok γ) ?_
 simp -implicitDefEqProofs only [go_sem, seval, hq]
 cases f1 : (a0.Op == 21)
 ·rw [if_neg (nF f1)] at h
  refine X_cond (lx_ok γ) ?_
  simp -implicitDefEqProofs only [go_sem, seval, f1, hq]
  refine X_sr (lx_ok γ) ?_
  simp -implicitDefEqProofs only [go_sem, seval, f1, hq]
  cases f2 : (a0.Op == 22)
  ·rw [if_neg (nF f2)] at h
   refine X_cond (lx_ok γ) ?_
   simp -implicitDefEqProofs only [go_sem, seval, f1, f2, hq]
   refine X_skip ?_
   try simp -implicitDefEqProofs only [go_sem]
   refine X_sr (lx_ok γ) ?_
   simp -implicitDefEqProofs only [go_sem, seval, f1, f2, hq]
   obtain rfl := sI h
   refine X_ret ?_
   simp -implicitDefEqProofs only [go_sem, seval, f1, f2, hq]
   exact Rt.trans (Rt.mv0 (BaseR.refl hob) (by simp) (vS)) Rt.nilRow
  ·rw [if_pos f2] at h
   refine X_cond (lx_ok γ) ?_
   simp -implicitDefEqProofs only [go_sem, seval, f1, f2, hq]
   refine X_seq ?_
   refine X_sr (lx_ok γ) ?_
   simp -implicitDefEqProofs only [go_sem, seval, f1, f2, hq]
   cases f3 : (a0.N == a0.M)
   ·rw [if_neg (nF f3)] at h
    refine X_cond (lx_ok γ) ?_
    simp -implicitDefEqProofs only [go_sem, seval, f1, f2, f3, hq]
    refine X_skip ?_
    try simp -implicitDefEqProofs only [go_sem]
    refine X_sr (lx_ok γ) ?_
    simp -implicitDefEqProofs only [go_sem, seval, f1, f2, f3, hq]
    obtain rfl := sI h
    refine X_ret ?_
    simp -implicitDefEqProofs only [go_sem, seval, f1, f2, f3, hq]
    exact Rt.mv [(1, 0)] (BaseR.refl hob) (by simp) (by decide) (VM.rowL (j := 1) (t := 0) rfl (by first | rfl | simp | simp_all | omega)) ⟨⟨_, rfl, OM.row' (by first | rfl | simp_all)⟩, trivial⟩
   ·rw [if_pos f3] at h
    refine X_cond (lx_ok γ) ?_
    simp -implicitDefEqProofs only [go_sem, seval, f1, f2, f3, hq]
    refine X_sr (lx_ok γ) ?_
    simp -implicitDefEqProofs only [go_sem, seval, f1, f2, f3, hq]
    obtain rfl := sI h
    refine X_ret ?_
    simp -implicitDefEqProofs only [go_sem, seval, f1, f2, f3, hq]
    exact Rt.mv [(1, 0)] (BaseR.refl hob) (by simp) (by decide) (VM.rowL (j := 1) (t := 0) rfl (by first | rfl | simp | simp_all | omega)) ⟨⟨_, rfl, OM.row' (by first | rfl | simp_all)⟩, trivial⟩
 ·rw [if_pos f1] at h
  refine X_cond (lx_ok γ) ?_
  simp -implicitDefEqProofs only [go_sem, seval, f1, hq]
  refine X_sr (lx_ok γ) ?_
  simp -implicitDefEqProofs only [go_sem, seval, f1, hq]
  obtain rfl := sI h
  refine X_ret ?_
  simp -implicitDefEqProofs only [go_sem, seval, f1, hq]
  exact Rt.mv [(1, 0)] (BaseR.refl hob) (by simp) (by decide) (VM.rowL (j := 1) (t := 0) rfl (by first | rfl | simp | simp_all | omega)) ⟨⟨_, rfl, OM.row' (by first | rfl | simp_all)⟩, trivial⟩
end Go.Pf
end
section
set_option maxRecDepth 100000
namespace Go.Pf
open Go Go.Ab Go.Pp Go.Proofs Go.Proofs.S04
attribute [local go_sem] Lxτ Lxγ gam0 Int.toNat_natCast List.append_eq List.cons_append List.nil_append tau3 tau5 tau28 tau35 eI eB eS e_Ins e_Block e_Func e_Prog e_code_writer e_code_reader e_Edge
set_option maxHeartbeats 1000000 in
theorem portolanref04_bare_ok (γ : GT) (ob : OT) {a0 : Ins} {v0_6 : V} (hv0_6 : rdK (getO ob) 1 v0_6 = some (List.map (eI .i64) a0.Args)) {r : Bool} (h : portolanref04_bare a0 = some r) :
  Valid (Lx γ) 53 [V.agg [vint .i64 a0.Op, vint .i64 a0.D, vint .i64 a0.A, vint .i64 a0.B, vint .i64 a0.N, vint .i64 a0.M, v0_6]] ob (vbool r) ob := by
 refine valid_X (lx_ok γ) (fn := Tryd.f53) (rs := [.tmp 2]) Tryd.func53 (by kernel_rfl) rfl rfl Tryd.ntmps53 rfl (by simp) fun hb hob => ?_
 have hq := rd4 hv0_6
 rw [portolanref04_bare] at h
 refine X_sr (lx_ok γ) ?_
 simp -implicitDefEqProofs only [go_sem, seval, hq]
 refine X_sr (lx_ok γ) ?_
 cases f1 : (a0.D == 0)
 ·rw [if_neg (nF f1)] at h
  obtain ⟨x1, f2, h⟩ := bindE h
  simp -implicitDefEqProofs only [go_sem, seval, f1, hq]
  refine callV_eq (portolanref04_has_ok γ _  f2) rfl rfl ?_
  cases f3 : x1
  ·rw [if_neg (nF f3)] at h
   simp -implicitDefEqProofs only [go_sem, seval, f1, f3, hq]
   obtain rfl := sI h
   refine X_ret ?_
   simp -implicitDefEqProofs only [go_sem, seval, f1, f3, hq]
   exact Rt.mv0 (BaseR.refl hob) (by simp) (vS)
  ·rw [if_pos f3] at h
   cases f4 : (a0.A == 0)
   ·rw [if_neg (nF f4)] at h
    obtain ⟨x2, f5, h⟩ := bindE h
    simp -implicitDefEqProofs only [go_sem, seval, f1, f3, f4, hq]
    refine callV_eq (portolanref04_has_ok γ _  f5) rfl rfl ?_
    cases f6 : x2
    ·rw [if_neg (nF f6)] at h
     simp -implicitDefEqProofs only [go_sem, seval, f1, f3, f4, f6, hq]
     obtain rfl := sI h
     refine X_ret ?_
     simp -implicitDefEqProofs only [go_sem, seval, f1, f3, f4, f6, hq]
     exact Rt.mv0 (BaseR.refl hob) (by simp) (vS)
    ·rw [if_pos f6] at h
     cases f7 : (a0.B == 0)
     ·rw [if_neg (nF f7)] at h
      obtain ⟨x3, f8, h⟩ := bindE h
      simp -implicitDefEqProofs only [go_sem, seval, f1, f3, f4, f6, f7, hq]
      refine callV_eq (portolanref04_has_ok γ _  f8) rfl rfl ?_
      cases f9 : x3
      ·rw [if_neg (nF f9)] at h
       simp -implicitDefEqProofs only [go_sem, seval, f1, f3, f4, f6, f7, f9, hq]
       obtain rfl := sI h
       refine X_ret ?_
       simp -implicitDefEqProofs only [go_sem, seval, f1, f3, f4, f6, f7, f9, hq]
       exact Rt.mv0 (BaseR.refl hob) (by simp) (vS)
      ·rw [if_pos f9] at h
       cases f10 : (a0.N == 0)
       ·rw [if_neg (nF f10)] at h
        obtain ⟨x4, f11, h⟩ := bindE h
        simp -implicitDefEqProofs only [go_sem, seval, f1, f3, f4, f6, f7, f9, f10, hq]
        refine callV_eq (portolanref04_has_ok γ _  f11) rfl rfl ?_
        cases f12 : x4
        ·rw [if_neg (nF f12)] at h
         obtain ⟨x5, f13, h⟩ := bindE h
         simp -implicitDefEqProofs only [go_sem, seval, f1, f3, f4, f6, f7, f9, f10, f12, hq]
         refine callV_eq (portolanref04_has_ok γ _  f13) rfl rfl ?_
         cases f14 : x5
         ·rw [if_neg (nF f14)] at h
          simp -implicitDefEqProofs only [go_sem, seval, f1, f3, f4, f6, f7, f9, f10, f12, f14, hq]
          obtain rfl := sI h
          refine X_ret ?_
          simp -implicitDefEqProofs only [go_sem, seval, f1, f3, f4, f6, f7, f9, f10, f12, f14, hq]
          exact Rt.mv0 (BaseR.refl hob) (by simp) (vS)
         ·rw [if_pos f14] at h
          cases f15 : (a0.M == 0)
          ·rw [if_neg (nF f15)] at h
           obtain ⟨x6, f16, h⟩ := bindE h
           simp -implicitDefEqProofs only [go_sem, seval, f1, f3, f4, f6, f7, f9, f10, f12, f14, f15, hq]
           refine callV_eq (portolanref04_has_ok γ _  f16) rfl rfl ?_
           cases f17 : x6
           ·rw [if_neg (nF f17)] at h
            simp -implicitDefEqProofs only [go_sem, seval, f1, f3, f4, f6, f7, f9, f10, f12, f14, f15, f17, hq]
            obtain rfl := sI h
            refine X_ret ?_
            simp -implicitDefEqProofs only [go_sem, seval, f1, f3, f4, f6, f7, f9, f10, f12, f14, f15, f17, hq]
            exact Rt.mv0 (BaseR.refl hob) (by simp) (vS)
           ·rw [if_pos f17] at h
            cases f18 : ((List.length a0.Args : Int) == 0)
            ·rw [if_neg (nF f18)] at h
             obtain ⟨x7, f19, h⟩ := bindE h
             simp -implicitDefEqProofs only [go_sem, seval, f1, f3, f4, f6, f7, f9, f10, f12, f14, f15, f17, f18, hq]
             refine callV_eq (portolanref04_has_ok γ _  f19) rfl rfl ?_
             simp -implicitDefEqProofs only [go_sem, seval, f1, f3, f4, f6, f7, f9, f10, f12, f14, f15, f17, f18, hq]
             obtain rfl := sI h
             refine X_ret ?_
             simp -implicitDefEqProofs only [go_sem, seval, f1, f3, f4, f6, f7, f9, f10, f12, f14, f15, f17, f18, hq]
             exact Rt.mv0 (BaseR.refl hob) (by simp) (vS)
            ·rw [if_pos f18] at h
             simp -implicitDefEqProofs only [go_sem, seval, f1, f3, f4, f6, f7, f9, f10, f12, f14, f15, f17, f18, hq]
             obtain rfl := sI h
             refine X_ret ?_
             simp -implicitDefEqProofs only [go_sem, seval, f1, f3, f4, f6, f7, f9, f10, f12, f14, f15, f17, f18, hq]
             exact Rt.mv0 (BaseR.refl hob) (by simp) (vS)
          ·rw [if_pos f15] at h
           cases f20 : ((List.length a0.Args : Int) == 0)
           ·rw [if_neg (nF f20)] at h
            obtain ⟨x8, f21, h⟩ := bindE h
            simp -implicitDefEqProofs only [go_sem, seval, f1, f3, f4, f6, f7, f9, f10, f12, f14, f15, f20, hq]
            refine callV_eq (portolanref04_has_ok γ _  f21) rfl rfl ?_
            simp -implicitDefEqProofs only [go_sem, seval, f1, f3, f4, f6, f7, f9, f10, f12, f14, f15, f20, hq]
            obtain rfl := sI h
            refine X_ret ?_
            simp -implicitDefEqProofs only [go_sem, seval, f1, f3, f4, f6, f7, f9, f10, f12, f14, f15, f20, hq]
            exact Rt.mv0 (BaseR.refl hob) (by simp) (vS)
           ·rw [if_pos f20] at h
            simp -implicitDefEqProofs only [go_sem, seval, f1, f3, f4, f6, f7, f9, f10, f12, f14, f15, f20, hq]
            obtain rfl := sI h
            refine X_ret ?_
            simp -implicitDefEqProofs only [go_sem, seval, f1, f3, f4, f6, f7, f9, f10, f12, f14, f15, f20, hq]
            exact Rt.mv0 (BaseR.refl hob) (by simp) (vS)
        ·rw [if_pos f12] at h
         cases f22 : (a0.M == 0)
         ·rw [if_neg (nF f22)] at h
          obtain ⟨x9, f23, h⟩ := bindE h
          simp -implicitDefEqProofs only [go_sem, seval, f1, f3, f4, f6, f7, f9, f10, f12, f22, hq]
          refine callV_eq (portolanref04_has_ok γ _  f23) rfl rfl ?_
          cases f24 : x9
          ·rw [if_neg (nF f24)] at h
           simp -implicitDefEqProofs only [go_sem, seval, f1, f3, f4, f6, f7, f9, f10, f12, f22, f24, hq]
           obtain rfl := sI h
           refine X_ret ?_
           simp -implicitDefEqProofs only [go_sem, seval, f1, f3, f4, f6, f7, f9, f10, f12, f22, f24, hq]
           exact Rt.mv0 (BaseR.refl hob) (by simp) (vS)
          ·rw [if_pos f24] at h
           cases f25 : ((List.length a0.Args : Int) == 0)
           ·rw [if_neg (nF f25)] at h
            obtain ⟨x10, f26, h⟩ := bindE h
            simp -implicitDefEqProofs only [go_sem, seval, f1, f3, f4, f6, f7, f9, f10, f12, f22, f24, f25, hq]
            refine callV_eq (portolanref04_has_ok γ _  f26) rfl rfl ?_
            simp -implicitDefEqProofs only [go_sem, seval, f1, f3, f4, f6, f7, f9, f10, f12, f22, f24, f25, hq]
            obtain rfl := sI h
            refine X_ret ?_
            simp -implicitDefEqProofs only [go_sem, seval, f1, f3, f4, f6, f7, f9, f10, f12, f22, f24, f25, hq]
            exact Rt.mv0 (BaseR.refl hob) (by simp) (vS)
           ·rw [if_pos f25] at h
            simp -implicitDefEqProofs only [go_sem, seval, f1, f3, f4, f6, f7, f9, f10, f12, f22, f24, f25, hq]
            obtain rfl := sI h
            refine X_ret ?_
            simp -implicitDefEqProofs only [go_sem, seval, f1, f3, f4, f6, f7, f9, f10, f12, f22, f24, f25, hq]
            exact Rt.mv0 (BaseR.refl hob) (by simp) (vS)
         ·rw [if_pos f22] at h
          cases f27 : ((List.length a0.Args : Int) == 0)
          ·rw [if_neg (nF f27)] at h
           obtain ⟨x11, f28, h⟩ := bindE h
           simp -implicitDefEqProofs only [go_sem, seval, f1, f3, f4, f6, f7, f9, f10, f12, f22, f27, hq]
           refine callV_eq (portolanref04_has_ok γ _  f28) rfl rfl ?_
           simp -implicitDefEqProofs only [go_sem, seval, f1, f3, f4, f6, f7, f9, f10, f12, f22, f27, hq]
           obtain rfl := sI h
           refine X_ret ?_
           simp -implicitDefEqProofs only [go_sem, seval, f1, f3, f4, f6, f7, f9, f10, f12, f22, f27, hq]
           exact Rt.mv0 (BaseR.refl hob) (by simp) (vS)
          ·rw [if_pos f27] at h
           simp -implicitDefEqProofs only [go_sem, seval, f1, f3, f4, f6, f7, f9, f10, f12, f22, f27, hq]
           obtain rfl := sI h
           refine X_ret ?_
           simp -implicitDefEqProofs only [go_sem, seval, f1, f3, f4, f6, f7, f9, f10, f12, f22, f27, hq]
           exact Rt.mv0 (BaseR.refl hob) (by simp) (vS)
       ·rw [if_pos f10] at h
        cases f29 : (a0.M == 0)
        ·rw [if_neg (nF f29)] at h
         obtain ⟨x12, f30, h⟩ := bindE h
         simp -implicitDefEqProofs only [go_sem, seval, f1, f3, f4, f6, f7, f9, f10, f29, hq]
         refine callV_eq (portolanref04_has_ok γ _  f30) rfl rfl ?_
         cases f31 : x12
         ·rw [if_neg (nF f31)] at h
          simp -implicitDefEqProofs only [go_sem, seval, f1, f3, f4, f6, f7, f9, f10, f29, f31, hq]
          obtain rfl := sI h
          refine X_ret ?_
          simp -implicitDefEqProofs only [go_sem, seval, f1, f3, f4, f6, f7, f9, f10, f29, f31, hq]
          exact Rt.mv0 (BaseR.refl hob) (by simp) (vS)
         ·rw [if_pos f31] at h
          cases f32 : ((List.length a0.Args : Int) == 0)
          ·rw [if_neg (nF f32)] at h
           obtain ⟨x13, f33, h⟩ := bindE h
           simp -implicitDefEqProofs only [go_sem, seval, f1, f3, f4, f6, f7, f9, f10, f29, f31, f32, hq]
           refine callV_eq (portolanref04_has_ok γ _  f33) rfl rfl ?_
           simp -implicitDefEqProofs only [go_sem, seval, f1, f3, f4, f6, f7, f9, f10, f29, f31, f32, hq]
           obtain rfl := sI h
           refine X_ret ?_
           simp -implicitDefEqProofs only [go_sem, seval, f1, f3, f4, f6, f7, f9, f10, f29, f31, f32, hq]
           exact Rt.mv0 (BaseR.refl hob) (by simp) (vS)
          ·rw [if_pos f32] at h
           simp -implicitDefEqProofs only [go_sem, seval, f1, f3, f4, f6, f7, f9, f10, f29, f31, f32, hq]
           obtain rfl := sI h
           refine X_ret ?_
           simp -implicitDefEqProofs only [go_sem, seval, f1, f3, f4, f6, f7, f9, f10, f29, f31, f32, hq]
           exact Rt.mv0 (BaseR.refl hob) (by simp) (vS)
        ·rw [if_pos f29] at h
         cases f34 : ((List.length a0.Args : Int) == 0)
         ·rw [if_neg (nF f34)] at h
          obtain ⟨x14, f35, h⟩ := bindE h
          simp -implicitDefEqProofs only [go_sem, seval, f1, f3, f4, f6, f7, f9, f10, f29, f34, hq]
          refine callV_eq (portolanref04_has_ok γ _  f35) rfl rfl ?_
          simp -implicitDefEqProofs only [go_sem, seval, f1, f3, f4, f6, f7, f9, f10, f29, f34, hq]
          obtain rfl := sI h
          refine X_ret ?_
          simp -implicitDefEqProofs only [go_sem, seval, f1, f3, f4, f6, f7, f9, f10, f29, f34, hq]
          exact Rt.mv0 (BaseR.refl hob) (by simp) (vS)
         ·rw [if_pos f34] at h
          simp -implicitDefEqProofs only [go_sem, seval, f1, f3, f4, f6, f7, f9, f10, f29, f34, hq]
          obtain rfl := sI h
          refine X_ret ?_
          simp -implicitDefEqProofs only [go_sem, seval, f1, f3, f4, f6, f7, f9, f10, f29, f34, hq]
          exact Rt.mv0 (BaseR.refl hob) (by simp) (vS)
     ·rw [if_pos f7] at h
      cases f36 : (a0.N == 0)
      ·rw [if_neg (nF f36)] at h
       obtain ⟨x15, f37, h⟩ := bindE h
       simp -implicitDefEqProofs only [go_sem, seval, f1, f3, f4, f6, f7, f36, hq]
       refine callV_eq (portolanref04_has_ok γ _  f37) rfl rfl ?_
       cases f38 : x15
       ·rw [if_neg (nF f38)] at h
        obtain ⟨x16, f39, h⟩ := bindE h
        simp -implicitDefEqProofs only [go_sem, seval, f1, f3, f4, f6, f7, f36, f38, hq]
        refine callV_eq (portolanref04_has_ok γ _  f39) rfl rfl ?_
        cases f40 : x16
        ·rw [if_neg (nF f40)] at h
         simp -implicitDefEqProofs only [go_sem, seval, f1, f3, f4, f6, f7, f36, f38, f40, hq]
         obtain rfl := sI h
         refine X_ret ?_
         simp -implicitDefEqProofs only [go_sem, seval, f1, f3, f4, f6, f7, f36, f38, f40, hq]
         exact Rt.mv0 (BaseR.refl hob) (by simp) (vS)
        ·rw [if_pos f40] at h
         cases f41 : (a0.M == 0)
         ·rw [if_neg (nF f41)] at h
          obtain ⟨x17, f42, h⟩ := bindE h
          simp -implicitDefEqProofs only [go_sem, seval, f1, f3, f4, f6, f7, f36, f38, f40, f41, hq]
          refine callV_eq (portolanref04_has_ok γ _  f42) rfl rfl ?_
          cases f43 : x17
          ·rw [if_neg (nF f43)] at h
           simp -implicitDefEqProofs only [go_sem, seval, f1, f3, f4, f6, f7, f36, f38, f40, f41, f43, hq]
           obtain rfl := sI h
           refine X_ret ?_
           simp -implicitDefEqProofs only [go_sem, seval, f1, f3, f4, f6, f7, f36, f38, f40, f41, f43, hq]
           exact Rt.mv0 (BaseR.refl hob) (by simp) (vS)
          ·rw [if_pos f43] at h
           cases f44 : ((List.length a0.Args : Int) == 0)
           ·rw [if_neg (nF f44)] at h
            obtain ⟨x18, f45, h⟩ := bindE h
            simp -implicitDefEqProofs only [go_sem, seval, f1, f3, f4, f6, f7, f36, f38, f40, f41, f43, f44, hq]
            refine callV_eq (portolanref04_has_ok γ _  f45) rfl rfl ?_
            simp -implicitDefEqProofs only [go_sem, seval, f1, f3, f4, f6, f7, f36, f38, f40, f41, f43, f44, hq]
            obtain rfl := sI h
            refine X_ret ?_
            simp -implicitDefEqProofs only [go_sem, seval, f1, f3, f4, f6, f7, f36, f38, f40, f41, f43, f44, hq]
            exact Rt.mv0 (BaseR.refl hob) (by simp) (vS)
           ·rw [if_pos f44] at h
            simp -implicitDefEqProofs only [go_sem, seval, f1, f3, f4, f6, f7, f36, f38, f40, f41, f43, f44, hq]
            obtain rfl := sI h
            refine X_ret ?_
            simp -implicitDefEqProofs only [go_sem, seval, f1, f3, f4, f6, f7, f36, f38, f40, f41, f43, f44, hq]
            exact Rt.mv0 (BaseR.refl hob) (by simp) (vS)
         ·rw [if_pos f41] at h
          cases f46 : ((List.length a0.Args : Int) == 0)
          ·rw [if_neg (nF f46)] at h
           obtain ⟨x19, f47, h⟩ := bindE h
           simp -implicitDefEqProofs only [go_sem, seval, f1, f3, f4, f6, f7, f36, f38, f40, f41, f46, hq]
           refine callV_eq (portolanref04_has_ok γ _  f47) rfl rfl ?_
           simp -implicitDefEqProofs only [go_sem, seval, f1, f3, f4, f6, f7, f36, f38, f40, f41, f46, hq]
           obtain rfl := sI h
           refine X_ret ?_
           simp -implicitDefEqProofs only [go_sem, seval, f1, f3, f4, f6, f7, f36, f38, f40, f41, f46, hq]
           exact Rt.mv0 (BaseR.refl hob) (by simp) (vS)
          ·rw [if_pos f46] at h
           simp -implicitDefEqProofs only [go_sem, seval, f1, f3, f4, f6, f7, f36, f38, f40, f41, f46, hq]
           obtain rfl := sI h
           refine X_ret ?_
           simp -implicitDefEqProofs only [go_sem, seval, f1, f3, f4, f6, f7, f36, f38, f40, f41, f46, hq]
           exact Rt.mv0 (BaseR.refl hob) (by simp) (vS)
       ·rw [if_pos f38] at h
        cases f48 : (a0.M == 0)
        ·rw [if_neg (nF f48)] at h
         obtain ⟨x20, f49, h⟩ := bindE h
         simp -implicitDefEqProofs only [go_sem, seval, f1, f3, f4, f6, f7, f36, f38, f48, hq]
         refine callV_eq (portolanref04_has_ok γ _  f49) rfl rfl ?_
         cases f50 : x20
         ·rw [if_neg (nF f50)] at h
          simp -implicitDefEqProofs only [go_sem, seval, f1, f3, f4, f6, f7, f36, f38, f48, f50, hq]
          obtain rfl := sI h
          refine X_ret ?_
          simp -implicitDefEqProofs only [go_sem, seval, f1, f3, f4, f6, f7, f36, f38, f48, f50, hq]
          exact Rt.mv0 (BaseR.refl hob) (by simp) (vS)
         ·rw [if_pos f50] at h
          cases f51 : ((List.length a0.Args : Int) == 0)
          ·rw [if_neg (nF f51)] at h
           obtain ⟨x21, f52, h⟩ := bindE h
           simp -implicitDefEqProofs only [go_sem, seval, f1, f3, f4, f6, f7, f36, f38, f48, f50, f51, hq]
           refine callV_eq (portolanref04_has_ok γ _  f52) rfl rfl ?_
           simp -implicitDefEqProofs only [go_sem, seval, f1, f3, f4, f6, f7, f36, f38, f48, f50, f51, hq]
           obtain rfl := sI h
           refine X_ret ?_
           simp -implicitDefEqProofs only [go_sem, seval, f1, f3, f4, f6, f7, f36, f38, f48, f50, f51, hq]
           exact Rt.mv0 (BaseR.refl hob) (by simp) (vS)
          ·rw [if_pos f51] at h
           simp -implicitDefEqProofs only [go_sem, seval, f1, f3, f4, f6, f7, f36, f38, f48, f50, f51, hq]
           obtain rfl := sI h
           refine X_ret ?_
           simp -implicitDefEqProofs only [go_sem, seval, f1, f3, f4, f6, f7, f36, f38, f48, f50, f51, hq]
           exact Rt.mv0 (BaseR.refl hob) (by simp) (vS)
        ·rw [if_pos f48] at h
         cases f53 : ((List.length a0.Args : Int) == 0)
         ·rw [if_neg (nF f53)] at h
          obtain ⟨x22, f54, h⟩ := bindE h
          simp -implicitDefEqProofs only [go_sem, seval, f1, f3, f4, f6, f7, f36, f38, f48, f53, hq]
          refine callV_eq (portolanref04_has_ok γ _  f54) rfl rfl ?_
          simp -implicitDefEqProofs only [go_sem, seval, f1, f3, f4, f6, f7, f36, f38, f48, f53, hq]
          obtain rfl := sI h
          refine X_ret ?_
          simp -implicitDefEqProofs only [go_sem, seval, f1, f3, f4, f6, f7, f36, f38, f48, f53, hq]
          exact Rt.mv0 (BaseR.refl hob) (by simp) (vS)
         ·rw [if_pos f53] at h
          simp -implicitDefEqProofs only [go_sem, seval, f1, f3, f4, f6, f7, f36, f38, f48, f53, hq]
          obtain rfl := sI h
          refine X_ret ?_
          simp -implicitDefEqProofs only [go_sem, seval, f1, f3, f4, f6, f7, f36, f38, f48, f53, hq]
          exact Rt.mv0 (BaseR.refl hob) (by simp) (vS)
      ·rw [if_pos f36] at h
       cases f55 : (a0.M == 0)
       ·rw [if_neg (nF f55)] at h
        obtain ⟨x23, f56, h⟩ := bindE h
        simp -implicitDefEqProofs only [go_sem, seval, f1, f3, f4, f6, f7, f36, f55, hq]
        refine callV_eq (portolanref04_has_ok γ _  f56) rfl rfl ?_
        cases f57 : x23
        ·rw [if_neg (nF f57)] at h
         simp -implicitDefEqProofs only [go_sem, seval, f1, f3, f4, f6, f7, f36, f55, f57, hq]
         obtain rfl := sI h
         refine X_ret ?_
         simp -implicitDefEqProofs only [go_sem, seval, f1, f3, f4, f6, f7, f36, f55, f57, hq]
         exact Rt.mv0 (BaseR.refl hob) (by simp) (vS)
        ·rw [if_pos f57] at h
         cases f58 : ((List.length a0.Args : Int) == 0)
         ·rw [if_neg (nF f58)] at h
          obtain ⟨x24, f59, h⟩ := bindE h
          simp -implicitDefEqProofs only [go_sem, seval, f1, f3, f4, f6, f7, f36, f55, f57, f58, hq]
          refine callV_eq (portolanref04_has_ok γ _  f59) rfl rfl ?_
          simp -implicitDefEqProofs only [go_sem, seval, f1, f3, f4, f6, f7, f36, f55, f57, f58, hq]
          obtain rfl := sI h
          refine X_ret ?_
          simp -implicitDefEqProofs only [go_sem, seval, f1, f3, f4, f6, f7, f36, f55, f57, f58, hq]
          exact Rt.mv0 (BaseR.refl hob) (by simp) (vS)
         ·rw [if_pos f58] at h
          simp -implicitDefEqProofs only [go_sem, seval, f1, f3, f4, f6, f7, f36, f55, f57, f58, hq]
          obtain rfl := sI h
          refine X_ret ?_
          simp -implicitDefEqProofs only [go_sem, seval, f1, f3, f4, f6, f7, f36, f55, f57, f58, hq]
          exact Rt.mv0 (BaseR.refl hob) (by simp) (vS)
       ·rw [if_pos f55] at h
        cases f60 : ((List.length a0.Args : Int) == 0)
        ·rw [if_neg (nF f60)] at h
         obtain ⟨x25, f61, h⟩ := bindE h
         simp -implicitDefEqProofs only [go_sem, seval, f1, f3, f4, f6, f7, f36, f55, f60, hq]
         refine callV_eq (portolanref04_has_ok γ _  f61) rfl rfl ?_
         simp -implicitDefEqProofs only [go_sem, seval, f1, f3, f4, f6, f7, f36, f55, f60, hq]
         obtain rfl := sI h
         refine X_ret ?_
         simp -implicitDefEqProofs only [go_sem, seval, f1, f3, f4, f6, f7, f36, f55, f60, hq]
         exact Rt.mv0 (BaseR.refl hob) (by simp) (vS)
        ·rw [if_pos f60] at h
         simp -implicitDefEqProofs only [go_sem, seval, f1, f3, f4, f6, f7, f36, f55, f60, hq]
         obtain rfl := sI h
         refine X_ret ?_
         simp -implicitDefEqProofs only [go_sem, seval, f1, f3, f4, f6, f7, f36, f55, f60, hq]
         exact Rt.mv0 (BaseR.refl hob) (by simp) (vS)
   ·rw [if_pos f4] at h
    cases f62 : (a0.B == 0)
    ·rw [if_neg (nF f62)] at h
     obtain ⟨x26, f63, h⟩ := bindE h
     simp -implicitDefEqProofs only [go_sem, seval, f1, f3, f4, f62, hq]
     refine callV_eq (portolanref04_has_ok γ _  f63) rfl rfl ?_
     cases f64 : x26
     ·rw [if_neg (nF f64)] at h
      simp -implicitDefEqProofs only [go_sem, seval, f1, f3, f4, f62, f64, hq]
      obtain rfl := sI h
      refine X_ret ?_
      simp -implicitDefEqProofs only [go_sem, seval, f1, f3, f4, f62, f64, hq]
      exact Rt.mv0 (BaseR.refl hob) (by simp) (vS)
     ·rw [if_pos f64] at h
      cases f65 : (a0.N == 0)
      ·rw [if_neg (nF f65)] at h
       obtain ⟨x27, f66, h⟩ := bindE h
       simp -implicitDefEqProofs only [go_sem, seval, f1, f3, f4, f62, f64, f65, hq]
       refine callV_eq (portolanref04_has_ok γ _  f66) rfl rfl ?_
       cases f67 : x27
       ·rw [if_neg (nF f67)] at h
        obtain ⟨x28, f68, h⟩ := bindE h
        simp -implicitDefEqProofs only [go_sem, seval, f1, f3, f4, f62, f64, f65, f67, hq]
        refine callV_eq (portolanref04_has_ok γ _  f68) rfl rfl ?_
        cases f69 : x28
        ·rw [if_neg (nF f69)] at h
         simp -implicitDefEqProofs only [go_sem, seval, f1, f3, f4, f62, f64, f65, f67, f69, hq]
         obtain rfl := sI h
         refine X_ret ?_
         simp -implicitDefEqProofs only [go_sem, seval, f1, f3, f4, f62, f64, f65, f67, f69, hq]
         exact Rt.mv0 (BaseR.refl hob) (by simp) (vS)
        ·rw [if_pos f69] at h
         cases f70 : (a0.M == 0)
         ·rw [if_neg (nF f70)] at h
          obtain ⟨x29, f71, h⟩ := bindE h
          simp -implicitDefEqProofs only [go_sem, seval, f1, f3, f4, f62, f64, f65, f67, f69, f70, hq]
          refine callV_eq (portolanref04_has_ok γ _  f71) rfl rfl ?_
          cases f72 : x29
          ·rw [if_neg (nF f72)] at h
           simp -implicitDefEqProofs only [go_sem, seval, f1, f3, f4, f62, f64, f65, f67, f69, f70, f72, hq]
           obtain rfl := sI h
           refine X_ret ?_
           simp -implicitDefEqProofs only [go_sem, seval, f1, f3, f4, f62, f64, f65, f67, f69, f70, f72, hq]
           exact Rt.mv0 (BaseR.refl hob) (by simp) (vS)
          ·rw [if_pos f72] at h
           cases f73 : ((List.length a0.Args : Int) == 0)
           ·rw [if_neg (nF f73)] at h
            obtain ⟨x30, f74, h⟩ := bindE h
            simp -implicitDefEqProofs only [go_sem, seval, f1, f3, f4, f62, f64, f65, f67, f69, f70, f72, f73, hq]
            refine callV_eq (portolanref04_has_ok γ _  f74) rfl rfl ?_
            simp -implicitDefEqProofs only [go_sem, seval, f1, f3, f4, f62, f64, f65, f67, f69, f70, f72, f73, hq]
            obtain rfl := sI h
            refine X_ret ?_
            simp -implicitDefEqProofs only [go_sem, seval, f1, f3, f4, f62, f64, f65, f67, f69, f70, f72, f73, hq]
            exact Rt.mv0 (BaseR.refl hob) (by simp) (vS)
           ·rw [if_pos f73] at h
            simp -implicitDefEqProofs only [go_sem, seval, f1, f3, f4, f62, f64, f65, f67, f69, f70, f72, f73, hq]
            obtain rfl := sI h
            refine X_ret ?_
            simp -implicitDefEqProofs only [go_sem, seval, f1, f3, f4, f62, f64, f65, f67, f69, f70, f72, f73, hq]
            exact Rt.mv0 (BaseR.refl hob) (by simp) (vS)
         ·rw [if_pos f70] at h
          cases f75 : ((List.length a0.Args : Int) == 0)
          ·rw [if_neg (nF f75)] at h
           obtain ⟨x31, f76, h⟩ := bindE h
           simp -implicitDefEqProofs only [go_sem, seval, f1, f3, f4, f62, f64, f65, f67, f69, f70, f75, hq]
           refine callV_eq (portolanref04_has_ok γ _  f76) rfl rfl ?_
           simp -implicitDefEqProofs only [go_sem, seval, f1, f3, f4, f62, f64, f65, f67, f69, f70, f75, hq]
           obtain rfl := sI h
           refine X_ret ?_
           simp -implicitDefEqProofs only [go_sem, seval, f1, f3, f4, f62, f64, f65, f67, f69, f70, f75, hq]
           exact Rt.mv0 (BaseR.refl hob) (by simp) (vS)
          ·rw [if_pos f75] at h
           simp -implicitDefEqProofs only [go_sem, seval, f1, f3, f4, f62, f64, f65, f67, f69, f70, f75, hq]
           obtain rfl := sI h
           refine X_ret ?_
           simp -implicitDefEqProofs only [go_sem, seval, f1, f3, f4, f62, f64, f65, f67, f69, f70, f75, hq]
           exact Rt.mv0 (BaseR.refl hob) (by simp) (vS)
       ·rw [if_pos f67] at h
        cases f77 : (a0.M == 0)
        ·rw [if_neg (nF f77)] at h
         obtain ⟨x32, f78, h⟩ := bindE h
         simp -implicitDefEqProofs only [go_sem, seval, f1, f3, f4, f62, f64, f65, f67, f77, hq]
         refine callV_eq (portolanref04_has_ok γ _  f78) rfl rfl ?_
         cases f79 : x32
         ·rw [if_neg (nF f79)] at h
          simp -implicitDefEqProofs only [go_sem, seval, f1, f3, f4, f62, f64, f65, f67, f77, f79, hq]
          obtain rfl := sI h
          refine X_ret ?_
          simp -implicitDefEqProofs only [go_sem, seval, f1, f3, f4, f62, f64, f65, f67, f77, f79, hq]
          exact Rt.mv0 (BaseR.refl hob) (by simp) (vS)
         ·rw [if_pos f79] at h
          cases f80 : ((List.length a0.Args : Int) == 0)
          ·rw [if_neg (nF f80)] at h
           obtain ⟨x33, f81, h⟩ := bindE h
           simp -implicitDefEqProofs only [go_sem, seval, f1, f3, f4, f62, f64, f65, f67, f77, f79, f80, hq]
           refine callV_eq (portolanref04_has_ok γ _  f81) rfl rfl ?_
           simp -implicitDefEqProofs only [go_sem, seval, f1, f3, f4, f62, f64, f65, f67, f77, f79, f80, hq]
           obtain rfl := sI h
           refine X_ret ?_
           simp -implicitDefEqProofs only [go_sem, seval, f1, f3, f4, f62, f64, f65, f67, f77, f79, f80, hq]
           exact Rt.mv0 (BaseR.refl hob) (by simp) (vS)
          ·rw [if_pos f80] at h
           simp -implicitDefEqProofs only [go_sem, seval, f1, f3, f4, f62, f64, f65, f67, f77, f79, f80, hq]
           obtain rfl := sI h
           refine X_ret ?_
           simp -implicitDefEqProofs only [go_sem, seval, f1, f3, f4, f62, f64, f65, f67, f77, f79, f80, hq]
           exact Rt.mv0 (BaseR.refl hob) (by simp) (vS)
        ·rw [if_pos f77] at h
         cases f82 : ((List.length a0.Args : Int) == 0)
         ·rw [if_neg (nF f82)] at h
          obtain ⟨x34, f83, h⟩ := bindE h
          simp -implicitDefEqProofs only [go_sem, seval, f1, f3, f4, f62, f64, f65, f67, f77, f82, hq]
          refine callV_eq (portolanref04_has_ok γ _  f83) rfl rfl ?_
          simp -implicitDefEqProofs only [go_sem, seval, f1, f3, f4, f62, f64, f65, f67, f77, f82, hq]
          obtain rfl := sI h
          refine X_ret ?_
          simp -implicitDefEqProofs only [go_sem, seval, f1, f3, f4, f62, f64, f65, f67, f77, f82, hq]
          exact Rt.mv0 (BaseR.refl hob) (by simp) (vS)
         ·rw [if_pos f82] at h
          simp -implicitDefEqProofs only [go_sem, seval, f1, f3, f4, f62, f64, f65, f67, f77, f82, hq]
          obtain rfl := sI h
          refine X_ret ?_
          simp -implicitDefEqProofs only [go_sem, seval, f1, f3, f4, f62, f64, f65, f67, f77, f82, hq]
          exact Rt.mv0 (BaseR.refl hob) (by simp) (vS)
      ·rw [if_pos f65] at h
       cases f84 : (a0.M == 0)
       ·rw [if_neg (nF f84)] at h
        obtain ⟨x35, f85, h⟩ := bindE h
        simp -implicitDefEqProofs only [go_sem, seval, f1, f3, f4, f62, f64, f65, f84, hq]
        refine callV_eq (portolanref04_has_ok γ _  f85) rfl rfl ?_
        cases f86 : x35
        ·rw [if_neg (nF f86)] at h
         simp -implicitDefEqProofs only [go_sem, seval, f1, f3, f4, f62, f64, f65, f84, f86, hq]
         obtain rfl := sI h
         refine X_ret ?_
         simp -implicitDefEqProofs only [go_sem, seval, f1, f3, f4, f62, f64, f65, f84, f86, hq]
         exact Rt.mv0 (BaseR.refl hob) (by simp) (vS)
        ·rw [if_pos f86] at h
         cases f87 : ((List.length a0.Args : Int) == 0)
         ·rw [if_neg (nF f87)] at h
          obtain ⟨x36, f88, h⟩ := bindE h
          simp -implicitDefEqProofs only [go_sem, seval, f1, f3, f4, f62, f64, f65, f84, f86, f87, hq]
          refine callV_eq (portolanref04_has_ok γ _  f88) rfl rfl ?_
          simp -implicitDefEqProofs only [go_sem, seval, f1, f3, f4, f62, f64, f65, f84, f86, f87, hq]
          obtain rfl := sI h
          refine X_ret ?_
          simp -implicitDefEqProofs only [go_sem, seval, f1, f3, f4, f62, f64, f65, f84, f86, f87, hq]
          exact Rt.mv0 (BaseR.refl hob) (by simp) (vS)
         ·rw [if_pos f87] at h
          simp -implicitDefEqProofs only [go_sem, seval, f1, f3, f4, f62, f64, f65, f84, f86, f87, hq]
          obtain rfl := sI h
          refine X_ret ?_
          simp -implicitDefEqProofs only [go_sem, seval, f1, f3, f4, f62, f64, f65, f84, f86, f87, hq]
          exact Rt.mv0 (BaseR.refl hob) (by simp) (vS)
       ·rw [if_pos f84] at h
        cases f89 : ((List.length a0.Args : Int) == 0)
        ·rw [if_neg (nF f89)] at h
         obtain ⟨x37, f90, h⟩ := bindE h
         simp -implicitDefEqProofs only [go_sem, seval, f1, f3, f4, f62, f64, f65, f84, f89, hq]
         refine callV_eq (portolanref04_has_ok γ _  f90) rfl rfl ?_
         simp -implicitDefEqProofs only [go_sem, seval, f1, f3, f4, f62, f64, f65, f84, f89, hq]
         obtain rfl := sI h
         refine X_ret ?_
         simp -implicitDefEqProofs only [go_sem, seval, f1, f3, f4, f62, f64, f65, f84, f89, hq]
         exact Rt.mv0 (BaseR.refl hob) (by simp) (vS)
        ·rw [if_pos f89] at h
         simp -implicitDefEqProofs only [go_sem, seval, f1, f3, f4, f62, f64, f65, f84, f89, hq]
         obtain rfl := sI h
         refine X_ret ?_
         simp -implicitDefEqProofs only [go_sem, seval, f1, f3, f4, f62, f64, f65, f84, f89, hq]
         exact Rt.mv0 (BaseR.refl hob) (by simp) (vS)
    ·rw [if_pos f62] at h
     cases f91 : (a0.N == 0)
     ·rw [if_neg (nF f91)] at h
      obtain ⟨x38, f92, h⟩ := bindE h
      simp -implicitDefEqProofs only [go_sem, seval, f1, f3, f4, f62, f91, hq]
      refine callV_eq (portolanref04_has_ok γ _  f92) rfl rfl ?_
      cases f93 : x38
      ·rw [if_neg (nF f93)] at h
       obtain ⟨x39, f94, h⟩ := bindE h
       simp -implicitDefEqProofs only [go_sem, seval, f1, f3, f4, f62, f91, f93, hq]
       refine callV_eq (portolanref04_has_ok γ _  f94) rfl rfl ?_
       cases f95 : x39
       ·rw [if_neg (nF f95)] at h
        simp -implicitDefEqProofs only [go_sem, seval, f1, f3, f4, f62, f91, f93, f95, hq]
        obtain rfl := sI h
        refine X_ret ?_
        simp -implicitDefEqProofs only [go_sem, seval, f1, f3, f4, f62, f91, f93, f95, hq]
        exact Rt.mv0 (BaseR.refl hob) (by simp) (vS)
       ·rw [if_pos f95] at h
        cases f96 : (a0.M == 0)
        ·rw [if_neg (nF f96)] at h
         obtain ⟨x40, f97, h⟩ := bindE h
         simp -implicitDefEqProofs only [go_sem, seval, f1, f3, f4, f62, f91, f93, f95, f96, hq]
         refine callV_eq (portolanref04_has_ok γ _  f97) rfl rfl ?_
         cases f98 : x40
         ·rw [if_neg (nF f98)] at h
          simp -implicitDefEqProofs only [go_sem, seval, f1, f3, f4, f62, f91, f93, f95, f96, f98, hq]
          obtain rfl := sI h
          refine X_ret ?_
          simp -implicitDefEqProofs only [go_sem, seval, f1, f3, f4, f62, f91, f93, f95, f96, f98, hq]
          exact Rt.mv0 (BaseR.refl hob) (by simp) (vS)
         ·rw [if_pos f98] at h
          cases f99 : ((List.length a0.Args : Int) == 0)
          ·rw [if_neg (nF f99)] at h
           obtain ⟨x41, f100, h⟩ := bindE h
           simp -implicitDefEqProofs only [go_sem, seval, f1, f3, f4, f62, f91, f93, f95, f96, f98, f99, hq]
           refine callV_eq (portolanref04_has_ok γ _  f100) rfl rfl ?_
           simp -implicitDefEqProofs only [go_sem, seval, f1, f3, f4, f62, f91, f93, f95, f96, f98, f99, hq]
           obtain rfl := sI h
           refine X_ret ?_
           simp -implicitDefEqProofs only [go_sem, seval, f1, f3, f4, f62, f91, f93, f95, f96, f98, f99, hq]
           exact Rt.mv0 (BaseR.refl hob) (by simp) (vS)
          ·rw [if_pos f99] at h
           simp -implicitDefEqProofs only [go_sem, seval, f1, f3, f4, f62, f91, f93, f95, f96, f98, f99, hq]
           obtain rfl := sI h
           refine X_ret ?_
           simp -implicitDefEqProofs only [go_sem, seval, f1, f3, f4, f62, f91, f93, f95, f96, f98, f99, hq]
           exact Rt.mv0 (BaseR.refl hob) (by simp) (vS)
        ·rw [if_pos f96] at h
         cases f101 : ((List.length a0.Args : Int) == 0)
         ·rw [if_neg (nF f101)] at h
          obtain ⟨x42, f102, h⟩ := bindE h
          simp -implicitDefEqProofs only [go_sem, seval, f1, f3, f4, f62, f91, f93, f95, f96, f101, hq]
          refine callV_eq (portolanref04_has_ok γ _  f102) rfl rfl ?_
          simp -implicitDefEqProofs only [go_sem, seval, f1, f3, f4, f62, f91, f93, f95, f96, f101, hq]
          obtain rfl := sI h
          refine X_ret ?_
          simp -implicitDefEqProofs only [go_sem, seval, f1, f3, f4, f62, f91, f93, f95, f96, f101, hq]
          exact Rt.mv0 (BaseR.refl hob) (by simp) (vS)
         ·rw [if_pos f101] at h
          simp -implicitDefEqProofs only [go_sem, seval, f1, f3, f4, f62, f91, f93, f95, f96, f101, hq]
          obtain rfl := sI h
          refine X_ret ?_
          simp -implicitDefEqProofs only [go_sem, seval, f1, f3, f4, f62, f91, f93, f95, f96, f101, hq]
          exact Rt.mv0 (BaseR.refl hob) (by simp) (vS)
      ·rw [if_pos f93] at h
       cases f103 : (a0.M == 0)
       ·rw [if_neg (nF f103)] at h
        obtain ⟨x43, f104, h⟩ := bindE h
        simp -implicitDefEqProofs only [go_sem, seval, f1, f3, f4, f62, f91, f93, f103, hq]
        refine callV_eq (portolanref04_has_ok γ _  f104) rfl rfl ?_
        cases f105 : x43
        ·rw [if_neg (nF f105)] at h
         simp -implicitDefEqProofs only [go_sem, seval, f1, f3, f4, f62, f91, f93, f103, f105, hq]
         obtain rfl := sI h
         refine X_ret ?_
         simp -implicitDefEqProofs only [go_sem, seval, f1, f3, f4, f62, f91, f93, f103, f105, hq]
         exact Rt.mv0 (BaseR.refl hob) (by simp) (vS)
        ·rw [if_pos f105] at h
         cases f106 : ((List.length a0.Args : Int) == 0)
         ·rw [if_neg (nF f106)] at h
          obtain ⟨x44, f107, h⟩ := bindE h
          simp -implicitDefEqProofs only [go_sem, seval, f1, f3, f4, f62, f91, f93, f103, f105, f106, hq]
          refine callV_eq (portolanref04_has_ok γ _  f107) rfl rfl ?_
          simp -implicitDefEqProofs only [go_sem, seval, f1, f3, f4, f62, f91, f93, f103, f105, f106, hq]
          obtain rfl := sI h
          refine X_ret ?_
          simp -implicitDefEqProofs only [go_sem, seval, f1, f3, f4, f62, f91, f93, f103, f105, f106, hq]
          exact Rt.mv0 (BaseR.refl hob) (by simp) (vS)
         ·rw [if_pos f106] at h
          simp -implicitDefEqProofs only [go_sem, seval, f1, f3, f4, f62, f91, f93, f103, f105, f106, hq]
          obtain rfl := sI h
          refine X_ret ?_
          simp -implicitDefEqProofs only [go_sem, seval, f1, f3, f4, f62, f91, f93, f103, f105, f106, hq]
          exact Rt.mv0 (BaseR.refl hob) (by simp) (vS)
       ·rw [if_pos f103] at h
        cases f108 : ((List.length a0.Args : Int) == 0)
        ·rw [if_neg (nF f108)] at h
         obtain ⟨x45, f109, h⟩ := bindE h
         simp -implicitDefEqProofs only [go_sem, seval, f1, f3, f4, f62, f91, f93, f103, f108, hq]
         refine callV_eq (portolanref04_has_ok γ _  f109) rfl rfl ?_
         simp -implicitDefEqProofs only [go_sem, seval, f1, f3, f4, f62, f91, f93, f103, f108, hq]
         obtain rfl := sI h
         refine X_ret ?_
         simp -implicitDefEqProofs only [go_sem, seval, f1, f3, f4, f62, f91, f93, f103, f108, hq]
         exact Rt.mv0 (BaseR.refl hob) (by simp) (vS)
        ·rw [if_pos f108] at h
         simp -implicitDefEqProofs only [go_sem, seval, f1, f3, f4, f62, f91, f93, f103, f108, hq]
         obtain rfl := sI h
         refine X_ret ?_
         simp -implicitDefEqProofs only [go_sem, seval, f1, f3, f4, f62, f91, f93, f103, f108, hq]
         exact Rt.mv0 (BaseR.refl hob) (by simp) (vS)
     ·rw [if_pos f91] at h
      cases f110 : (a0.M == 0)
      ·rw [if_neg (nF f110)] at h
       obtain ⟨x46, f111, h⟩ := bindE h
       simp -implicitDefEqProofs only [go_sem, seval, f1, f3, f4, f62, f91, f110, hq]
       refine callV_eq (portolanref04_has_ok γ _  f111) rfl rfl ?_
       cases f112 : x46
       ·rw [if_neg (nF f112)] at h
        simp -implicitDefEqProofs only [go_sem, seval, f1, f3, f4, f62, f91, f110, f112, hq]
        obtain rfl := sI h
        refine X_ret ?_
        simp -implicitDefEqProofs only [go_sem, seval, f1, f3, f4, f62, f91, f110, f112, hq]
        exact Rt.mv0 (BaseR.refl hob) (by simp) (vS)
       ·rw [if_pos f112] at h
        cases f113 : ((List.length a0.Args : Int) == 0)
        ·rw [if_neg (nF f113)] at h
         obtain ⟨x47, f114, h⟩ := bindE h
         simp -implicitDefEqProofs only [go_sem, seval, f1, f3, f4, f62, f91, f110, f112, f113, hq]
         refine callV_eq (portolanref04_has_ok γ _  f114) rfl rfl ?_
         simp -implicitDefEqProofs only [go_sem, seval, f1, f3, f4, f62, f91, f110, f112, f113, hq]
         obtain rfl := sI h
         refine X_ret ?_
         simp -implicitDefEqProofs only [go_sem, seval, f1, f3, f4, f62, f91, f110, f112, f113, hq]
         exact Rt.mv0 (BaseR.refl hob) (by simp) (vS)
        ·rw [if_pos f113] at h
         simp -implicitDefEqProofs only [go_sem, seval, f1, f3, f4, f62, f91, f110, f112, f113, hq]
         obtain rfl := sI h
         refine X_ret ?_
         simp -implicitDefEqProofs only [go_sem, seval, f1, f3, f4, f62, f91, f110, f112, f113, hq]
         exact Rt.mv0 (BaseR.refl hob) (by simp) (vS)
      ·rw [if_pos f110] at h
       cases f115 : ((List.length a0.Args : Int) == 0)
       ·rw [if_neg (nF f115)] at h
        obtain ⟨x48, f116, h⟩ := bindE h
        simp -implicitDefEqProofs only [go_sem, seval, f1, f3, f4, f62, f91, f110, f115, hq]
        refine callV_eq (portolanref04_has_ok γ _  f116) rfl rfl ?_
        simp -implicitDefEqProofs only [go_sem, seval, f1, f3, f4, f62, f91, f110, f115, hq]
        obtain rfl := sI h
        refine X_ret ?_
        simp -implicitDefEqProofs only [go_sem, seval, f1, f3, f4, f62, f91, f110, f115, hq]
        exact Rt.mv0 (BaseR.refl hob) (by simp) (vS)
       ·rw [if_pos f115] at h
        simp -implicitDefEqProofs only [go_sem, seval, f1, f3, f4, f62, f91, f110, f115, hq]
        obtain rfl := sI h
        refine X_ret ?_
        simp -implicitDefEqProofs only [go_sem, seval, f1, f3, f4, f62, f91, f110, f115, hq]
        exact Rt.mv0 (BaseR.refl hob) (by simp) (vS)
 ·rw [if_pos f1] at h
  cases f117 : (a0.A == 0)
  ·rw [if_neg (nF f117)] at h
   obtain ⟨x49, f118, h⟩ := bindE h
   simp -implicitDefEqProofs only [go_sem, seval, f1, f117, hq]
   refine callV_eq (portolanref04_has_ok γ _  f118) rfl rfl ?_
   cases f119 : x49
   ·rw [if_neg (nF f119)] at h
    simp -implicitDefEqProofs only [go_sem, seval, f1, f117, f119, hq]
    obtain rfl := sI h
    refine X_ret ?_
    simp -implicitDefEqProofs only [go_sem, seval, f1, f117, f119, hq]
    exact Rt.mv0 (BaseR.refl hob) (by simp) (vS)
   ·rw [if_pos f119] at h
    cases f120 : (a0.B == 0)
    ·rw [if_neg (nF f120)] at h
     obtain ⟨x50, f121, h⟩ := bindE h
     simp -implicitDefEqProofs only [go_sem, seval, f1, f117, f119, f120, hq]
     refine callV_eq (portolanref04_has_ok γ _  f121) rfl rfl ?_
     cases f122 : x50
     ·rw [if_neg (nF f122)] at h
      simp -implicitDefEqProofs only [go_sem, seval, f1, f117, f119, f120, f122, hq]
      obtain rfl := sI h
      refine X_ret ?_
      simp -implicitDefEqProofs only [go_sem, seval, f1, f117, f119, f120, f122, hq]
      exact Rt.mv0 (BaseR.refl hob) (by simp) (vS)
     ·rw [if_pos f122] at h
      cases f123 : (a0.N == 0)
      ·rw [if_neg (nF f123)] at h
       obtain ⟨x51, f124, h⟩ := bindE h
       simp -implicitDefEqProofs only [go_sem, seval, f1, f117, f119, f120, f122, f123, hq]
       refine callV_eq (portolanref04_has_ok γ _  f124) rfl rfl ?_
       cases f125 : x51
       ·rw [if_neg (nF f125)] at h
        obtain ⟨x52, f126, h⟩ := bindE h
        simp -implicitDefEqProofs only [go_sem, seval, f1, f117, f119, f120, f122, f123, f125, hq]
        refine callV_eq (portolanref04_has_ok γ _  f126) rfl rfl ?_
        cases f127 : x52
        ·rw [if_neg (nF f127)] at h
         simp -implicitDefEqProofs only [go_sem, seval, f1, f117, f119, f120, f122, f123, f125, f127, hq]
         obtain rfl := sI h
         refine X_ret ?_
         simp -implicitDefEqProofs only [go_sem, seval, f1, f117, f119, f120, f122, f123, f125, f127, hq]
         exact Rt.mv0 (BaseR.refl hob) (by simp) (vS)
        ·rw [if_pos f127] at h
         cases f128 : (a0.M == 0)
         ·rw [if_neg (nF f128)] at h
          obtain ⟨x53, f129, h⟩ := bindE h
          simp -implicitDefEqProofs only [go_sem, seval, f1, f117, f119, f120, f122, f123, f125, f127, f128, hq]
          refine callV_eq (portolanref04_has_ok γ _  f129) rfl rfl ?_
          cases f130 : x53
          ·rw [if_neg (nF f130)] at h
           simp -implicitDefEqProofs only [go_sem, seval, f1, f117, f119, f120, f122, f123, f125, f127, f128, f130, hq]
           obtain rfl := sI h
           refine X_ret ?_
           simp -implicitDefEqProofs only [go_sem, seval, f1, f117, f119, f120, f122, f123, f125, f127, f128, f130, hq]
           exact Rt.mv0 (BaseR.refl hob) (by simp) (vS)
          ·rw [if_pos f130] at h
           cases f131 : ((List.length a0.Args : Int) == 0)
           ·rw [if_neg (nF f131)] at h
            obtain ⟨x54, f132, h⟩ := bindE h
            simp -implicitDefEqProofs only [go_sem, seval, f1, f117, f119, f120, f122, f123, f125, f127, f128, f130, f131, hq]
            refine callV_eq (portolanref04_has_ok γ _  f132) rfl rfl ?_
            simp -implicitDefEqProofs only [go_sem, seval, f1, f117, f119, f120, f122, f123, f125, f127, f128, f130, f131, hq]
            obtain rfl := sI h
            refine X_ret ?_
            simp -implicitDefEqProofs only [go_sem, seval, f1, f117, f119, f120, f122, f123, f125, f127, f128, f130, f131, hq]
            exact Rt.mv0 (BaseR.refl hob) (by simp) (vS)
           ·rw [if_pos f131] at h
            simp -implicitDefEqProofs only [go_sem, seval, f1, f117, f119, f120, f122, f123, f125, f127, f128, f130, f131, hq]
            obtain rfl := sI h
            refine X_ret ?_
            simp -implicitDefEqProofs only [go_sem, seval, f1, f117, f119, f120, f122, f123, f125, f127, f128, f130, f131, hq]
            exact Rt.mv0 (BaseR.refl hob) (by simp) (vS)
         ·rw [if_pos f128] at h
          cases f133 : ((List.length a0.Args : Int) == 0)
          ·rw [if_neg (nF f133)] at h
           obtain ⟨x55, f134, h⟩ := bindE h
           simp -implicitDefEqProofs only [go_sem, seval, f1, f117, f119, f120, f122, f123, f125, f127, f128, f133, hq]
           refine callV_eq (portolanref04_has_ok γ _  f134) rfl rfl ?_
           simp -implicitDefEqProofs only [go_sem, seval, f1, f117, f119, f120, f122, f123, f125, f127, f128, f133, hq]
           obtain rfl := sI h
           refine X_ret ?_
           simp -implicitDefEqProofs only [go_sem, seval, f1, f117, f119, f120, f122, f123, f125, f127, f128, f133, hq]
           exact Rt.mv0 (BaseR.refl hob) (by simp) (vS)
          ·rw [if_pos f133] at h
           simp -implicitDefEqProofs only [go_sem, seval, f1, f117, f119, f120, f122, f123, f125, f127, f128, f133, hq]
           obtain rfl := sI h
           refine X_ret ?_
           simp -implicitDefEqProofs only [go_sem, seval, f1, f117, f119, f120, f122, f123, f125, f127, f128, f133, hq]
           exact Rt.mv0 (BaseR.refl hob) (by simp) (vS)
       ·rw [if_pos f125] at h
        cases f135 : (a0.M == 0)
        ·rw [if_neg (nF f135)] at h
         obtain ⟨x56, f136, h⟩ := bindE h
         simp -implicitDefEqProofs only [go_sem, seval, f1, f117, f119, f120, f122, f123, f125, f135, hq]
         refine callV_eq (portolanref04_has_ok γ _  f136) rfl rfl ?_
         cases f137 : x56
         ·rw [if_neg (nF f137)] at h
          simp -implicitDefEqProofs only [go_sem, seval, f1, f117, f119, f120, f122, f123, f125, f135, f137, hq]
          obtain rfl := sI h
          refine X_ret ?_
          simp -implicitDefEqProofs only [go_sem, seval, f1, f117, f119, f120, f122, f123, f125, f135, f137, hq]
          exact Rt.mv0 (BaseR.refl hob) (by simp) (vS)
         ·rw [if_pos f137] at h
          cases f138 : ((List.length a0.Args : Int) == 0)
          ·rw [if_neg (nF f138)] at h
           obtain ⟨x57, f139, h⟩ := bindE h
           simp -implicitDefEqProofs only [go_sem, seval, f1, f117, f119, f120, f122, f123, f125, f135, f137, f138, hq]
           refine callV_eq (portolanref04_has_ok γ _  f139) rfl rfl ?_
           simp -implicitDefEqProofs only [go_sem, seval, f1, f117, f119, f120, f122, f123, f125, f135, f137, f138, hq]
           obtain rfl := sI h
           refine X_ret ?_
           simp -implicitDefEqProofs only [go_sem, seval, f1, f117, f119, f120, f122, f123, f125, f135, f137, f138, hq]
           exact Rt.mv0 (BaseR.refl hob) (by simp) (vS)
          ·rw [if_pos f138] at h
           simp -implicitDefEqProofs only [go_sem, seval, f1, f117, f119, f120, f122, f123, f125, f135, f137, f138, hq]
           obtain rfl := sI h
           refine X_ret ?_
           simp -implicitDefEqProofs only [go_sem, seval, f1, f117, f119, f120, f122, f123, f125, f135, f137, f138, hq]
           exact Rt.mv0 (BaseR.refl hob) (by simp) (vS)
        ·rw [if_pos f135] at h
         cases f140 : ((List.length a0.Args : Int) == 0)
         ·rw [if_neg (nF f140)] at h
          obtain ⟨x58, f141, h⟩ := bindE h
          simp -implicitDefEqProofs only [go_sem, seval, f1, f117, f119, f120, f122, f123, f125, f135, f140, hq]
          refine callV_eq (portolanref04_has_ok γ _  f141) rfl rfl ?_
          simp -implicitDefEqProofs only [go_sem, seval, f1, f117, f119, f120, f122, f123, f125, f135, f140, hq]
          obtain rfl := sI h
          refine X_ret ?_
          simp -implicitDefEqProofs only [go_sem, seval, f1, f117, f119, f120, f122, f123, f125, f135, f140, hq]
          exact Rt.mv0 (BaseR.refl hob) (by simp) (vS)
         ·rw [if_pos f140] at h
          simp -implicitDefEqProofs only [go_sem, seval, f1, f117, f119, f120, f122, f123, f125, f135, f140, hq]
          obtain rfl := sI h
          refine X_ret ?_
          simp -implicitDefEqProofs only [go_sem, seval, f1, f117, f119, f120, f122, f123, f125, f135, f140, hq]
          exact Rt.mv0 (BaseR.refl hob) (by simp) (vS)
      ·rw [if_pos f123] at h
       cases f142 : (a0.M == 0)
       ·rw [if_neg (nF f142)] at h
        obtain ⟨x59, f143, h⟩ := bindE h
        simp -implicitDefEqProofs only [go_sem, seval, f1, f117, f119, f120, f122, f123, f142, hq]
        refine callV_eq (portolanref04_has_ok γ _  f143) rfl rfl ?_
        cases f144 : x59
        ·rw [if_neg (nF f144)] at h
         simp -implicitDefEqProofs only [go_sem, seval, f1, f117, f119, f120, f122, f123, f142, f144, hq]
         obtain rfl := sI h
         refine X_ret ?_
         simp -implicitDefEqProofs only [go_sem, seval, f1, f117, f119, f120, f122, f123, f142, f144, hq]
         exact Rt.mv0 (BaseR.refl hob) (by simp) (vS)
        ·rw [if_pos f144] at h
         cases f145 : ((List.length a0.Args : Int) == 0)
         ·rw [if_neg (nF f145)] at h
          obtain ⟨x60, f146, h⟩ := bindE h
          simp -implicitDefEqProofs only [go_sem, seval, f1, f117, f119, f120, f122, f123, f142, f144, f145, hq]
          refine callV_eq (portolanref04_has_ok γ _  f146) rfl rfl ?_
          simp -implicitDefEqProofs only [go_sem, seval, f1, f117, f119, f120, f122, f123, f142, f144, f145, hq]
          obtain rfl := sI h
          refine X_ret ?_
          simp -implicitDefEqProofs only [go_sem, seval, f1, f117, f119, f120, f122, f123, f142, f144, f145, hq]
          exact Rt.mv0 (BaseR.refl hob) (by simp) (vS)
         ·rw [if_pos f145] at h
          simp -implicitDefEqProofs only [go_sem, seval, f1, f117, f119, f120, f122, f123, f142, f144, f145, hq]
          obtain rfl := sI h
          refine X_ret ?_
          simp -implicitDefEqProofs only [go_sem, seval, f1, f117, f119, f120, f122, f123, f142, f144, f145, hq]
          exact Rt.mv0 (BaseR.refl hob) (by simp) (vS)
       ·rw [if_pos f142] at h
        cases f147 : ((List.length a0.Args : Int) == 0)
        ·rw [if_neg (nF f147)] at h
         obtain ⟨x61, f148, h⟩ := bindE h
         simp -implicitDefEqProofs only [go_sem, seval, f1, f117, f119, f120, f122, f123, f142, f147, hq]
         refine callV_eq (portolanref04_has_ok γ _  f148) rfl rfl ?_
         simp -implicitDefEqProofs only [go_sem, seval, f1, f117, f119, f120, f122, f123, f142, f147, hq]
         obtain rfl := sI h
         refine X_ret ?_
         simp -implicitDefEqProofs only [go_sem, seval, f1, f117, f119, f120, f122, f123, f142, f147, hq]
         exact Rt.mv0 (BaseR.refl hob) (by simp) (vS)
        ·rw [if_pos f147] at h
         simp -implicitDefEqProofs only [go_sem, seval, f1, f117, f119, f120, f122, f123, f142, f147, hq]
         obtain rfl := sI h
         refine X_ret ?_
         simp -implicitDefEqProofs only [go_sem, seval, f1, f117, f119, f120, f122, f123, f142, f147, hq]
         exact Rt.mv0 (BaseR.refl hob) (by simp) (vS)
    ·rw [if_pos f120] at h
     cases f149 : (a0.N == 0)
     ·rw [if_neg (nF f149)] at h
      obtain ⟨x62, f150, h⟩ := bindE h
      simp -implicitDefEqProofs only [go_sem, seval, f1, f117, f119, f120, f149, hq]
      refine callV_eq (portolanref04_has_ok γ _  f150) rfl rfl ?_
      cases f151 : x62
      ·rw [if_neg (nF f151)] at h
       obtain ⟨x63, f152, h⟩ := bindE h
       simp -implicitDefEqProofs only [go_sem, seval, f1, f117, f119, f120, f149, f151, hq]
       refine callV_eq (portolanref04_has_ok γ _  f152) rfl rfl ?_
       cases f153 : x63
       ·rw [if_neg (nF f153)] at h
        simp -implicitDefEqProofs only [go_sem, seval, f1, f117, f119, f120, f149, f151, f153, hq]
        obtain rfl := sI h
        refine X_ret ?_
        simp -implicitDefEqProofs only [go_sem, seval, f1, f117, f119, f120, f149, f151, f153, hq]
        exact Rt.mv0 (BaseR.refl hob) (by simp) (vS)
       ·rw [if_pos f153] at h
        cases f154 : (a0.M == 0)
        ·rw [if_neg (nF f154)] at h
         obtain ⟨x64, f155, h⟩ := bindE h
         simp -implicitDefEqProofs only [go_sem, seval, f1, f117, f119, f120, f149, f151, f153, f154, hq]
         refine callV_eq (portolanref04_has_ok γ _  f155) rfl rfl ?_
         cases f156 : x64
         ·rw [if_neg (nF f156)] at h
          simp -implicitDefEqProofs only [go_sem, seval, f1, f117, f119, f120, f149, f151, f153, f154, f156, hq]
          obtain rfl := sI h
          refine X_ret ?_
          simp -implicitDefEqProofs only [go_sem, seval, f1, f117, f119, f120, f149, f151, f153, f154, f156, hq]
          exact Rt.mv0 (BaseR.refl hob) (by simp) (vS)
         ·rw [if_pos f156] at h
          cases f157 : ((List.length a0.Args : Int) == 0)
          ·rw [if_neg (nF f157)] at h
           obtain ⟨x65, f158, h⟩ := bindE h
           simp -implicitDefEqProofs only [go_sem, seval, f1, f117, f119, f120, f149, f151, f153, f154, f156, f157, hq]
           refine callV_eq (portolanref04_has_ok γ _  f158) rfl rfl ?_
           simp -implicitDefEqProofs only [go_sem, seval, f1, f117, f119, f120, f149, f151, f153, f154, f156, f157, hq]
           obtain rfl := sI h
           refine X_ret ?_
           simp -implicitDefEqProofs only [go_sem, seval, f1, f117, f119, f120, f149, f151, f153, f154, f156, f157, hq]
           exact Rt.mv0 (BaseR.refl hob) (by simp) (vS)
          ·rw [if_pos f157] at h
           simp -implicitDefEqProofs only [go_sem, seval, f1, f117, f119, f120, f149, f151, f153, f154, f156, f157, hq]
           obtain rfl := sI h
           refine X_ret ?_
           simp -implicitDefEqProofs only [go_sem, seval, f1, f117, f119, f120, f149, f151, f153, f154, f156, f157, hq]
           exact Rt.mv0 (BaseR.refl hob) (by simp) (vS)
        ·rw [if_pos f154] at h
         cases f159 : ((List.length a0.Args : Int) == 0)
         ·rw [if_neg (nF f159)] at h
          obtain ⟨x66, f160, h⟩ := bindE h
          simp -implicitDefEqProofs only [go_sem, seval, f1, f117, f119, f120, f149, f151, f153, f154, f159, hq]
          refine callV_eq (portolanref04_has_ok γ _  f160) rfl rfl ?_
          simp -implicitDefEqProofs only [go_sem, seval, f1, f117, f119, f120, f149, f151, f153, f154, f159, hq]
          obtain rfl := sI h
          refine X_ret ?_
          simp -implicitDefEqProofs only [go_sem, seval, f1, f117, f119, f120, f149, f151, f153, f154, f159, hq]
          exact Rt.mv0 (BaseR.refl hob) (by simp) (vS)
         ·rw [if_pos f159] at h
          simp -implicitDefEqProofs only [go_sem, seval, f1, f117, f119, f120, f149, f151, f153, f154, f159, hq]
          obtain rfl := sI h
          refine X_ret ?_
          simp -implicitDefEqProofs only [go_sem, seval, f1, f117, f119, f120, f149, f151, f153, f154, f159, hq]
          exact Rt.mv0 (BaseR.refl hob) (by simp) (vS)
      ·rw [if_pos f151] at h
       cases f161 : (a0.M == 0)
       ·rw [if_neg (nF f161)] at h
        obtain ⟨x67, f162, h⟩ := bindE h
        simp -implicitDefEqProofs only [go_sem, seval, f1, f117, f119, f120, f149, f151, f161, hq]
        refine callV_eq (portolanref04_has_ok γ _  f162) rfl rfl ?_
        cases f163 : x67
        ·rw [if_neg (nF f163)] at h
         simp -implicitDefEqProofs only [go_sem, seval, f1, f117, f119, f120, f149, f151, f161, f163, hq]
         obtain rfl := sI h
         refine X_ret ?_
         simp -implicitDefEqProofs only [go_sem, seval, f1, f117, f119, f120, f149, f151, f161, f163, hq]
         exact Rt.mv0 (BaseR.refl hob) (by simp) (vS)
        ·rw [if_pos f163] at h
         cases f164 : ((List.length a0.Args : Int) == 0)
         ·rw [if_neg (nF f164)] at h
          obtain ⟨x68, f165, h⟩ := bindE h
          simp -implicitDefEqProofs only [go_sem, seval, f1, f117, f119, f120, f149, f151, f161, f163, f164, hq]
          refine callV_eq (portolanref04_has_ok γ _  f165) rfl rfl ?_
          simp -implicitDefEqProofs only [go_sem, seval, f1, f117, f119, f120, f149, f151, f161, f163, f164, hq]
          obtain rfl := sI h
          refine X_ret ?_
          simp -implicitDefEqProofs only [go_sem, seval, f1, f117, f119, f120, f149, f151, f161, f163, f164, hq]
          exact Rt.mv0 (BaseR.refl hob) (by simp) (vS)
         ·rw [if_pos f164] at h
          simp -implicitDefEqProofs only [go_sem, seval, f1, f117, f119, f120, f149, f151, f161, f163, f164, hq]
          obtain rfl := sI h
          refine X_ret ?_
          simp -implicitDefEqProofs only [go_sem, seval, f1, f117, f119, f120, f149, f151, f161, f163, f164, hq]
          exact Rt.mv0 (BaseR.refl hob) (by simp) (vS)
       ·rw [if_pos f161] at h
        cases f166 : ((List.length a0.Args : Int) == 0)
        ·rw [if_neg (nF f166)] at h
         obtain ⟨x69, f167, h⟩ := bindE h
         simp -implicitDefEqProofs only [go_sem, seval, f1, f117, f119, f120, f149, f151, f161, f166, hq]
         refine callV_eq (portolanref04_has_ok γ _  f167) rfl rfl ?_
         simp -implicitDefEqProofs only [go_sem, seval, f1, f117, f119, f120, f149, f151, f161, f166, hq]
         obtain rfl := sI h
         refine X_ret ?_
         simp -implicitDefEqProofs only [go_sem, seval, f1, f117, f119, f120, f149, f151, f161, f166, hq]
         exact Rt.mv0 (BaseR.refl hob) (by simp) (vS)
        ·rw [if_pos f166] at h
         simp -implicitDefEqProofs only [go_sem, seval, f1, f117, f119, f120, f149, f151, f161, f166, hq]
         obtain rfl := sI h
         refine X_ret ?_
         simp -implicitDefEqProofs only [go_sem, seval, f1, f117, f119, f120, f149, f151, f161, f166, hq]
         exact Rt.mv0 (BaseR.refl hob) (by simp) (vS)
     ·rw [if_pos f149] at h
      cases f168 : (a0.M == 0)
      ·rw [if_neg (nF f168)] at h
       obtain ⟨x70, f169, h⟩ := bindE h
       simp -implicitDefEqProofs only [go_sem, seval, f1, f117, f119, f120, f149, f168, hq]
       refine callV_eq (portolanref04_has_ok γ _  f169) rfl rfl ?_
       cases f170 : x70
       ·rw [if_neg (nF f170)] at h
        simp -implicitDefEqProofs only [go_sem, seval, f1, f117, f119, f120, f149, f168, f170, hq]
        obtain rfl := sI h
        refine X_ret ?_
        simp -implicitDefEqProofs only [go_sem, seval, f1, f117, f119, f120, f149, f168, f170, hq]
        exact Rt.mv0 (BaseR.refl hob) (by simp) (vS)
       ·rw [if_pos f170] at h
        cases f171 : ((List.length a0.Args : Int) == 0)
        ·rw [if_neg (nF f171)] at h
         obtain ⟨x71, f172, h⟩ := bindE h
         simp -implicitDefEqProofs only [go_sem, seval, f1, f117, f119, f120, f149, f168, f170, f171, hq]
         refine callV_eq (portolanref04_has_ok γ _  f172) rfl rfl ?_
         simp -implicitDefEqProofs only [go_sem, seval, f1, f117, f119, f120, f149, f168, f170, f171, hq]
         obtain rfl := sI h
         refine X_ret ?_
         simp -implicitDefEqProofs only [go_sem, seval, f1, f117, f119, f120, f149, f168, f170, f171, hq]
         exact Rt.mv0 (BaseR.refl hob) (by simp) (vS)
        ·rw [if_pos f171] at h
         simp -implicitDefEqProofs only [go_sem, seval, f1, f117, f119, f120, f149, f168, f170, f171, hq]
         obtain rfl := sI h
         refine X_ret ?_
         simp -implicitDefEqProofs only [go_sem, seval, f1, f117, f119, f120, f149, f168, f170, f171, hq]
         exact Rt.mv0 (BaseR.refl hob) (by simp) (vS)
      ·rw [if_pos f168] at h
       cases f173 : ((List.length a0.Args : Int) == 0)
       ·rw [if_neg (nF f173)] at h
        obtain ⟨x72, f174, h⟩ := bindE h
        simp -implicitDefEqProofs only [go_sem, seval, f1, f117, f119, f120, f149, f168, f173, hq]
        refine callV_eq (portolanref04_has_ok γ _  f174) rfl rfl ?_
        simp -implicitDefEqProofs only [go_sem, seval, f1, f117, f119, f120, f149, f168, f173, hq]
        obtain rfl := sI h
        refine X_ret ?_
        simp -implicitDefEqProofs only [go_sem, seval, f1, f117, f119, f120, f149, f168, f173, hq]
        exact Rt.mv0 (BaseR.refl hob) (by simp) (vS)
       ·rw [if_pos f173] at h
        simp -implicitDefEqProofs only [go_sem, seval, f1, f117, f119, f120, f149, f168, f173, hq]
        obtain rfl := sI h
        refine X_ret ?_
        simp -implicitDefEqProofs only [go_sem, seval, f1, f117, f119, f120, f149, f168, f173, hq]
        exact Rt.mv0 (BaseR.refl hob) (by simp) (vS)
  ·rw [if_pos f117] at h
   cases f175 : (a0.B == 0)
   ·rw [if_neg (nF f175)] at h
    obtain ⟨x73, f176, h⟩ := bindE h
    simp -implicitDefEqProofs only [go_sem, seval, f1, f117, f175, hq]
    refine callV_eq (portolanref04_has_ok γ _  f176) rfl rfl ?_
    cases f177 : x73
    ·rw [if_neg (nF f177)] at h
     simp -implicitDefEqProofs only [go_sem, seval, f1, f117, f175, f177, hq]
     obtain rfl := sI h
     refine X_ret ?_
     simp -implicitDefEqProofs only [go_sem, seval, f1, f117, f175, f177, hq]
     exact Rt.mv0 (BaseR.refl hob) (by simp) (vS)
    ·rw [if_pos f177] at h
     cases f178 : (a0.N == 0)
     ·rw [if_neg (nF f178)] at h
      obtain ⟨x74, f179, h⟩ := bindE h
      simp -implicitDefEqProofs only [go_sem, seval, f1, f117, f175, f177, f178, hq]
      refine callV_eq (portolanref04_has_ok γ _  f179) rfl rfl ?_
      cases f180 : x74
      ·rw [if_neg (nF f180)] at h
       obtain ⟨x75, f181, h⟩ := bindE h
       simp -implicitDefEqProofs only [go_sem, seval, f1, f117, f175, f177, f178, f180, hq]
       refine callV_eq (portolanref04_has_ok γ _  f181) rfl rfl ?_
       cases f182 : x75
       ·rw [if_neg (nF f182)] at h
        simp -implicitDefEqProofs only [go_sem, seval, f1, f117, f175, f177, f178, f180, f182, hq]
        obtain rfl := sI h
        refine X_ret ?_
        simp -implicitDefEqProofs only [go_sem, seval, f1, f117, f175, f177, f178, f180, f182, hq]
        exact Rt.mv0 (BaseR.refl hob) (by simp) (vS)
       ·rw [if_pos f182] at h
        cases f183 : (a0.M == 0)
        ·rw [if_neg (nF f183)] at h
         obtain ⟨x76, f184, h⟩ := bindE h
         simp -implicitDefEqProofs only [go_sem, seval, f1, f117, f175, f177, f178, f180, f182, f183, hq]
         refine callV_eq (portolanref04_has_ok γ _  f184) rfl rfl ?_
         cases f185 : x76
         ·rw [if_neg (nF f185)] at h
          simp -implicitDefEqProofs only [go_sem, seval, f1, f117, f175, f177, f178, f180, f182, f183, f185, hq]
          obtain rfl := sI h
          refine X_ret ?_
          simp -implicitDefEqProofs only [go_sem, seval, f1, f117, f175, f177, f178, f180, f182, f183, f185, hq]
          exact Rt.mv0 (BaseR.refl hob) (by simp) (vS)
         ·rw [if_pos f185] at h
          cases f186 : ((List.length a0.Args : Int) == 0)
          ·rw [if_neg (nF f186)] at h
           obtain ⟨x77, f187, h⟩ := bindE h
           simp -implicitDefEqProofs only [go_sem, seval, f1, f117, f175, f177, f178, f180, f182, f183, f185, f186, hq]
           refine callV_eq (portolanref04_has_ok γ _  f187) rfl rfl ?_
           simp -implicitDefEqProofs only [go_sem, seval, f1, f117, f175, f177, f178, f180, f182, f183, f185, f186, hq]
           obtain rfl := sI h
           refine X_ret ?_
           simp -implicitDefEqProofs only [go_sem, seval, f1, f117, f175, f177, f178, f180, f182, f183, f185, f186, hq]
           exact Rt.mv0 (BaseR.refl hob) (by simp) (vS)
          ·rw [if_pos f186] at h
           simp -implicitDefEqProofs only [go_sem, seval, f1, f117, f175, f177, f178, f180, f182, f183, f185, f186, hq]
           obtain rfl := sI h
           refine X_ret ?_
           simp -implicitDefEqProofs only [go_sem, seval, f1, f117, f175, f177, f178, f180, f182, f183, f185, f186, hq]
           exact Rt.mv0 (BaseR.refl hob) (by simp) (vS)
        ·rw [if_pos f183] at h
         cases f188 : ((List.length a0.Args : Int) == 0)
         ·rw [if_neg (nF f188)] at h
          obtain ⟨x78, f189, h⟩ := bindE h
          simp -implicitDefEqProofs only [go_sem, seval, f1, f117, f175, f177, f178, f180, f182, f183, f188, hq]
          refine callV_eq (portolanref04_has_ok γ _  f189) rfl rfl ?_
          simp -implicitDefEqProofs only [go_sem, seval, f1, f117, f175, f177, f178, f180, f182, f183, f188, hq]
          obtain rfl := sI h
          refine X_ret ?_
          simp -implicitDefEqProofs only [go_sem, seval, f1, f117, f175, f177, f178, f180, f182, f183, f188, hq]
          exact Rt.mv0 (BaseR.refl hob) (by simp) (vS)
         ·rw [if_pos f188] at h
          simp -implicitDefEqProofs only [go_sem, seval, f1, f117, f175, f177, f178, f180, f182, f183, f188, hq]
          obtain rfl := sI h
          refine X_ret ?_
          simp -implicitDefEqProofs only [go_sem, seval, f1, f117, f175, f177, f178, f180, f182, f183, f188, hq]
          exact Rt.mv0 (BaseR.refl hob) (by simp) (vS)
      ·rw [if_pos f180] at h
       cases f190 : (a0.M == 0)
       ·rw [if_neg (nF f190)] at h
        obtain ⟨x79, f191, h⟩ := bindE h
        simp -implicitDefEqProofs only [go_sem, seval, f1, f117, f175, f177, f178, f180, f190, hq]
        refine callV_eq (portolanref04_has_ok γ _  f191) rfl rfl ?_
        cases f192 : x79
        ·rw [if_neg (nF f192)] at h
         simp -implicitDefEqProofs only [go_sem, seval, f1, f117, f175, f177, f178, f180, f190, f192, hq]
         obtain rfl := sI h
         refine X_ret ?_
         simp -implicitDefEqProofs only [go_sem, seval, f1, f117, f175, f177, f178, f180, f190, f192, hq]
         exact Rt.mv0 (BaseR.refl hob) (by simp) (vS)
        ·rw [if_pos f192] at h
         cases f193 : ((List.length a0.Args : Int) == 0)
         ·rw [if_neg (nF f193)] at h
          obtain ⟨x80, f194, h⟩ := bindE h
          simp -implicitDefEqProofs only [go_sem, seval, f1, f117, f175, f177, f178, f180, f190, f192, f193, hq]
          refine callV_eq (portolanref04_has_ok γ _  f194) rfl rfl ?_
          simp -implicitDefEqProofs only [go_sem, seval, f1, f117, f175, f177, f178, f180, f190, f192, f193, hq]
          obtain rfl := sI h
          refine X_ret ?_
          simp -implicitDefEqProofs only [go_sem, seval, f1, f117, f175, f177, f178, f180, f190, f192, f193, hq]
          exact Rt.mv0 (BaseR.refl hob) (by simp) (vS)
         ·rw [if_pos f193] at h
          simp -implicitDefEqProofs only [go_sem, seval, f1, f117, f175, f177, f178, f180, f190, f192, f193, hq]
          obtain rfl := sI h
          refine X_ret ?_
          simp -implicitDefEqProofs only [go_sem, seval, f1, f117, f175, f177, f178, f180, f190, f192, f193, hq]
          exact Rt.mv0 (BaseR.refl hob) (by simp) (vS)
       ·rw [if_pos f190] at h
        cases f195 : ((List.length a0.Args : Int) == 0)
        ·rw [if_neg (nF f195)] at h
         obtain ⟨x81, f196, h⟩ := bindE h
         simp -implicitDefEqProofs only [go_sem, seval, f1, f117, f175, f177, f178, f180, f190, f195, hq]
         refine callV_eq (portolanref04_has_ok γ _  f196) rfl rfl ?_
         simp -implicitDefEqProofs only [go_sem, seval, f1, f117, f175, f177, f178, f180, f190, f195, hq]
         obtain rfl := sI h
         refine X_ret ?_
         simp -implicitDefEqProofs only [go_sem, seval, f1, f117, f175, f177, f178, f180, f190, f195, hq]
         exact Rt.mv0 (BaseR.refl hob) (by simp) (vS)
        ·rw [if_pos f195] at h
         simp -implicitDefEqProofs only [go_sem, seval, f1, f117, f175, f177, f178, f180, f190, f195, hq]
         obtain rfl := sI h
         refine X_ret ?_
         simp -implicitDefEqProofs only [go_sem, seval, f1, f117, f175, f177, f178, f180, f190, f195, hq]
         exact Rt.mv0 (BaseR.refl hob) (by simp) (vS)
     ·rw [if_pos f178] at h
      cases f197 : (a0.M == 0)
      ·rw [if_neg (nF f197)] at h
       obtain ⟨x82, f198, h⟩ := bindE h
       simp -implicitDefEqProofs only [go_sem, seval, f1, f117, f175, f177, f178, f197, hq]
       refine callV_eq (portolanref04_has_ok γ _  f198) rfl rfl ?_
       cases f199 : x82
       ·rw [if_neg (nF f199)] at h
        simp -implicitDefEqProofs only [go_sem, seval, f1, f117, f175, f177, f178, f197, f199, hq]
        obtain rfl := sI h
        refine X_ret ?_
        simp -implicitDefEqProofs only [go_sem, seval, f1, f117, f175, f177, f178, f197, f199, hq]
        exact Rt.mv0 (BaseR.refl hob) (by simp) (vS)
       ·rw [if_pos f199] at h
        cases f200 : ((List.length a0.Args : Int) == 0)
        ·rw [if_neg (nF f200)] at h
         obtain ⟨x83, f201, h⟩ := bindE h
         simp -implicitDefEqProofs only [go_sem, seval, f1, f117, f175, f177, f178, f197, f199, f200, hq]
         refine callV_eq (portolanref04_has_ok γ _  f201) rfl rfl ?_
         simp -implicitDefEqProofs only [go_sem, seval, f1, f117, f175, f177, f178, f197, f199, f200, hq]
         obtain rfl := sI h
         refine X_ret ?_
         simp -implicitDefEqProofs only [go_sem, seval, f1, f117, f175, f177, f178, f197, f199, f200, hq]
         exact Rt.mv0 (BaseR.refl hob) (by simp) (vS)
        ·rw [if_pos f200] at h
         simp -implicitDefEqProofs only [go_sem, seval, f1, f117, f175, f177, f178, f197, f199, f200, hq]
         obtain rfl := sI h
         refine X_ret ?_
         simp -implicitDefEqProofs only [go_sem, seval, f1, f117, f175, f177, f178, f197, f199, f200, hq]
         exact Rt.mv0 (BaseR.refl hob) (by simp) (vS)
      ·rw [if_pos f197] at h
       cases f202 : ((List.length a0.Args : Int) == 0)
       ·rw [if_neg (nF f202)] at h
        obtain ⟨x84, f203, h⟩ := bindE h
        simp -implicitDefEqProofs only [go_sem, seval, f1, f117, f175, f177, f178, f197, f202, hq]
        refine callV_eq (portolanref04_has_ok γ _  f203) rfl rfl ?_
        simp -implicitDefEqProofs only [go_sem, seval, f1, f117, f175, f177, f178, f197, f202, hq]
        obtain rfl := sI h
        refine X_ret ?_
        simp -implicitDefEqProofs only [go_sem, seval, f1, f117, f175, f177, f178, f197, f202, hq]
        exact Rt.mv0 (BaseR.refl hob) (by simp) (vS)
       ·rw [if_pos f202] at h
        simp -implicitDefEqProofs only [go_sem, seval, f1, f117, f175, f177, f178, f197, f202, hq]
        obtain rfl := sI h
        refine X_ret ?_
        simp -implicitDefEqProofs only [go_sem, seval, f1, f117, f175, f177, f178, f197, f202, hq]
        exact Rt.mv0 (BaseR.refl hob) (by simp) (vS)
   ·rw [if_pos f175] at h
    cases f204 : (a0.N == 0)
    ·rw [if_neg (nF f204)] at h
     obtain ⟨x85, f205, h⟩ := bindE h
     simp -implicitDefEqProofs only [go_sem, seval, f1, f117, f175, f204, hq]
     refine callV_eq (portolanref04_has_ok γ _  f205) rfl rfl ?_
     cases f206 : x85
     ·rw [if_neg (nF f206)] at h
      obtain ⟨x86, f207, h⟩ := bindE h
      simp -implicitDefEqProofs only [go_sem, seval, f1, f117, f175, f204, f206, hq]
      refine callV_eq (portolanref04_has_ok γ _  f207) rfl rfl ?_
      cases f208 : x86
      ·rw [if_neg (nF f208)] at h
       simp -implicitDefEqProofs only [go_sem, seval, f1, f117, f175, f204, f206, f208, hq]
       obtain rfl := sI h
       refine X_ret ?_
       simp -implicitDefEqProofs only [go_sem, seval, f1, f117, f175, f204, f206, f208, hq]
       exact Rt.mv0 (BaseR.refl hob) (by simp) (vS)
      ·rw [if_pos f208] at h
       cases f209 : (a0.M == 0)
       ·rw [if_neg (nF f209)] at h
        obtain ⟨x87, f210, h⟩ := bindE h
        simp -implicitDefEqProofs only [go_sem, seval, f1, f117, f175, f204, f206, f208, f209, hq]
        refine callV_eq (portolanref04_has_ok γ _  f210) rfl rfl ?_
        cases f211 : x87
        ·rw [if_neg (nF f211)] at h
         simp -implicitDefEqProofs only [go_sem, seval, f1, f117, f175, f204, f206, f208, f209, f211, hq]
         obtain rfl := sI h
         refine X_ret ?_
         simp -implicitDefEqProofs only [go_sem, seval, f1, f117, f175, f204, f206, f208, f209, f211, hq]
         exact Rt.mv0 (BaseR.refl hob) (by simp) (vS)
        ·rw [if_pos f211] at h
         cases f212 : ((List.length a0.Args : Int) == 0)
         ·rw [if_neg (nF f212)] at h
          obtain ⟨x88, f213, h⟩ := bindE h
          simp -implicitDefEqProofs only [go_sem, seval, f1, f117, f175, f204, f206, f208, f209, f211, f212, hq]
          refine callV_eq (portolanref04_has_ok γ _  f213) rfl rfl ?_
          simp -implicitDefEqProofs only [go_sem, seval, f1, f117, f175, f204, f206, f208, f209, f211, f212, hq]
          obtain rfl := sI h
          refine X_ret ?_
          simp -implicitDefEqProofs only [go_sem, seval, f1, f117, f175, f204, f206, f208, f209, f211, f212, hq]
          exact Rt.mv0 (BaseR.refl hob) (by simp) (vS)
         ·rw [if_pos f212] at h
          simp -implicitDefEqProofs only [go_sem, seval, f1, f117, f175, f204, f206, f208, f209, f211, f212, hq]
          obtain rfl := sI h
          refine X_ret ?_
          simp -implicitDefEqProofs only [go_sem, seval, f1, f117, f175, f204, f206, f208, f209, f211, f212, hq]
          exact Rt.mv0 (BaseR.refl hob) (by simp) (vS)
       ·rw [if_pos f209] at h
        cases f214 : ((List.length a0.Args : Int) == 0)
        ·rw [if_neg (nF f214)] at h
         obtain ⟨x89, f215, h⟩ := bindE h
         simp -implicitDefEqProofs only [go_sem, seval, f1, f117, f175, f204, f206, f208, f209, f214, hq]
         refine callV_eq (portolanref04_has_ok γ _  f215) rfl rfl ?_
         simp -implicitDefEqProofs only [go_sem, seval, f1, f117, f175, f204, f206, f208, f209, f214, hq]
         obtain rfl := sI h
         refine X_ret ?_
         simp -implicitDefEqProofs only [go_sem, seval, f1, f117, f175, f204, f206, f208, f209, f214, hq]
         exact Rt.mv0 (BaseR.refl hob) (by simp) (vS)
        ·rw [if_pos f214] at h
         simp -implicitDefEqProofs only [go_sem, seval, f1, f117, f175, f204, f206, f208, f209, f214, hq]
         obtain rfl := sI h
         refine X_ret ?_
         simp -implicitDefEqProofs only [go_sem, seval, f1, f117, f175, f204, f206, f208, f209, f214, hq]
         exact Rt.mv0 (BaseR.refl hob) (by simp) (vS)
     ·rw [if_pos f206] at h
      cases f216 : (a0.M == 0)
      ·rw [if_neg (nF f216)] at h
       obtain ⟨x90, f217, h⟩ := bindE h
       simp -implicitDefEqProofs only [go_sem, seval, f1, f117, f175, f204, f206, f216, hq]
       refine callV_eq (portolanref04_has_ok γ _  f217) rfl rfl ?_
       cases f218 : x90
       ·rw [if_neg (nF f218)] at h
        simp -implicitDefEqProofs only [go_sem, seval, f1, f117, f175, f204, f206, f216, f218, hq]
        obtain rfl := sI h
        refine X_ret ?_
        simp -implicitDefEqProofs only [go_sem, seval, f1, f117, f175, f204, f206, f216, f218, hq]
        exact Rt.mv0 (BaseR.refl hob) (by simp) (vS)
       ·rw [if_pos f218] at h
        cases f219 : ((List.length a0.Args : Int) == 0)
        ·rw [if_neg (nF f219)] at h
         obtain ⟨x91, f220, h⟩ := bindE h
         simp -implicitDefEqProofs only [go_sem, seval, f1, f117, f175, f204, f206, f216, f218, f219, hq]
         refine callV_eq (portolanref04_has_ok γ _  f220) rfl rfl ?_
         simp -implicitDefEqProofs only [go_sem, seval, f1, f117, f175, f204, f206, f216, f218, f219, hq]
         obtain rfl := sI h
         refine X_ret ?_
         simp -implicitDefEqProofs only [go_sem, seval, f1, f117, f175, f204, f206, f216, f218, f219, hq]
         exact Rt.mv0 (BaseR.refl hob) (by simp) (vS)
        ·rw [if_pos f219] at h
         simp -implicitDefEqProofs only [go_sem, seval, f1, f117, f175, f204, f206, f216, f218, f219, hq]
         obtain rfl := sI h
         refine X_ret ?_
         simp -implicitDefEqProofs only [go_sem, seval, f1, f117, f175, f204, f206, f216, f218, f219, hq]
         exact Rt.mv0 (BaseR.refl hob) (by simp) (vS)
      ·rw [if_pos f216] at h
       cases f221 : ((List.length a0.Args : Int) == 0)
       ·rw [if_neg (nF f221)] at h
        obtain ⟨x92, f222, h⟩ := bindE h
        simp -implicitDefEqProofs only [go_sem, seval, f1, f117, f175, f204, f206, f216, f221, hq]
        refine callV_eq (portolanref04_has_ok γ _  f222) rfl rfl ?_
        simp -implicitDefEqProofs only [go_sem, seval, f1, f117, f175, f204, f206, f216, f221, hq]
        obtain rfl := sI h
        refine X_ret ?_
        simp -implicitDefEqProofs only [go_sem, seval, f1, f117, f175, f204, f206, f216, f221, hq]
        exact Rt.mv0 (BaseR.refl hob) (by simp) (vS)
       ·rw [if_pos f221] at h
        simp -implicitDefEqProofs only [go_sem, seval, f1, f117, f175, f204, f206, f216, f221, hq]
        obtain rfl := sI h
        refine X_ret ?_
        simp -implicitDefEqProofs only [go_sem, seval, f1, f117, f175, f204, f206, f216, f221, hq]
        exact Rt.mv0 (BaseR.refl hob) (by simp) (vS)
    ·rw [if_pos f204] at h
     cases f223 : (a0.M == 0)
     ·rw [if_neg (nF f223)] at h
      obtain ⟨x93, f224, h⟩ := bindE h
      simp -implicitDefEqProofs only [go_sem, seval, f1, f117, f175, f204, f223, hq]
      refine callV_eq (portolanref04_has_ok γ _  f224) rfl rfl ?_
      cases f225 : x93
      ·rw [if_neg (nF f225)] at h
       simp -implicitDefEqProofs only [go_sem, seval, f1, f117, f175, f204, f223, f225, hq]
       obtain rfl := sI h
       refine X_ret ?_
       simp -implicitDefEqProofs only [go_sem, seval, f1, f117, f175, f204, f223, f225, hq]
       exact Rt.mv0 (BaseR.refl hob) (by simp) (vS)
      ·rw [if_pos f225] at h
       cases f226 : ((List.length a0.Args : Int) == 0)
       ·rw [if_neg (nF f226)] at h
        obtain ⟨x94, f227, h⟩ := bindE h
        simp -implicitDefEqProofs only [go_sem, seval, f1, f117, f175, f204, f223, f225, f226, hq]
        refine callV_eq (portolanref04_has_ok γ _  f227) rfl rfl ?_
        simp -implicitDefEqProofs only [go_sem, seval, f1, f117, f175, f204, f223, f225, f226, hq]
        obtain rfl := sI h
        refine X_ret ?_
        simp -implicitDefEqProofs only [go_sem, seval, f1, f117, f175, f204, f223, f225, f226, hq]
        exact Rt.mv0 (BaseR.refl hob) (by simp) (vS)
       ·rw [if_pos f226] at h
        simp -implicitDefEqProofs only [go_sem, seval, f1, f117, f175, f204, f223, f225, f226, hq]
        obtain rfl := sI h
        refine X_ret ?_
        simp -implicitDefEqProofs only [go_sem, seval, f1, f117, f175, f204, f223, f225, f226, hq]
        exact Rt.mv0 (BaseR.refl hob) (by simp) (vS)
     ·rw [if_pos f223] at h
      cases f228 : ((List.length a0.Args : Int) == 0)
      ·rw [if_neg (nF f228)] at h
       obtain ⟨x95, f229, h⟩ := bindE h
       simp -implicitDefEqProofs only [go_sem, seval, f1, f117, f175, f204, f223, f228, hq]
       refine callV_eq (portolanref04_has_ok γ _  f229) rfl rfl ?_
       simp -implicitDefEqProofs only [go_sem, seval, f1, f117, f175, f204, f223, f228, hq]
       obtain rfl := sI h
       refine X_ret ?_
       simp -implicitDefEqProofs only [go_sem, seval, f1, f117, f175, f204, f223, f228, hq]
       exact Rt.mv0 (BaseR.refl hob) (by simp) (vS)
      ·rw [if_pos f228] at h
       simp -implicitDefEqProofs only [go_sem, seval, f1, f117, f175, f204, f223, f228, hq]
       obtain rfl := sI h
       refine X_ret ?_
       simp -implicitDefEqProofs only [go_sem, seval, f1, f117, f175, f204, f223, f228, hq]
       exact Rt.mv0 (BaseR.refl hob) (by simp) (vS)
end Go.Pf
end
