/- Each function computes what its plain one says, part 1 -/
import Derived.Test.YtcbbchfhfacbdaaDoorU1
import Derived.Test.YtcbbchfhfacbdaaDoorH1
set_option linter.all false
section
namespace Go.Pf
open Go Go.Ab Go.Pp
def e_Ins (x : Ins) : List Tr := [.lit (.int .i64 x.Op), .lit (.int .i64 x.D), .lit (.int .i64 x.A), .lit (.int .i64 x.B), .lit (.int .i64 x.N), .lit (.int .i64 x.M), .sl 1 false (List.map (eI .i64) x.Args)]
def e_Block (x : Block) : List Tr := [.sl 7 false (List.map e_Ins x.Code)]
def e_Func (x : Func) : List Tr := [.sl 1 false (List.map (eI .i64) x.Kinds), .sl 1 false (List.map (eI .i64) x.Base), .lit (.int .i64 x.Params), .lit (.int .i64 x.Result), .sl 1 false (List.map e_Block x.Blocks)]
def e_Prog (x : Prog) : List Tr := [.sl 5 false (List.map e_Func x.Funcs)]
def e_code_writer (x : code_writer) : List Tr := [.sl 1 false (List.map (eI .u8) x.b), .lit (.bool x.bad)]
def e_code_reader (x : code_reader) : List Tr := [.sl 1 false (List.map (eI .u8) x.b), .lit (.int .i64 x.err)]
def e_Edge (x : Edge) : List Tr := [.lit (.int .i64 x.From), .lit (.int .i64 x.To)]
end Go.Pf
end
section
set_option maxRecDepth 100000
namespace Go.Pf
open Go Go.Ab Go.Pp Go.Proofs Go.Proofs.S04
attribute [local go_sem] Lxτ Lxγ gam0 Int.toNat_natCast tau3 eI eB eS e_Ins e_Block e_Func e_Prog e_code_writer e_code_reader e_Edge
set_option maxHeartbeats 1000000 in
theorem shape_within_ok (γ : GT) (ob : OT) {a0 : Int} {a1 : Int} {a2 : Int} {r : Bool} (h : shape_within a0 a1 a2 = some r) :
  Valid (Lx γ) 36 [vint .i64 a0, vint .i64 a1, vint .i64 a2] ob (vbool r) ob := by
 refine valid_X (lx_ok γ) (fn := Tryd.f36) (rs := [.tmp 6]) Tryd.func36 (by kernel_rfl) rfl rfl Tryd.ntmps36 rfl (by simp) fun hb hob => ?_
 rw [shape_within] at h
 refine X_sr (lx_ok γ) ?_
 simp -implicitDefEqProofs only [go_sem, seval]
 refine X_sr (lx_ok γ) ?_
 cases f1 : decide (a1 ≤ a0)
 ·rw [if_neg (nF f1)] at h
  simp -implicitDefEqProofs only [go_sem, seval, f1]
  obtain rfl := sI h
  refine X_ret ?_
  simp -implicitDefEqProofs only [go_sem, seval, f1]
  exact Rt.mv1 (BaseR.refl hob) (by simp) (vS)
 ·rw [if_pos f1] at h
  simp -implicitDefEqProofs only [go_sem, seval, f1]
  obtain rfl := sI h
  refine X_ret ?_
  simp -implicitDefEqProofs only [go_sem, seval, f1]
  exact Rt.mv1 (BaseR.refl hob) (by simp) (vS)
end Go.Pf
end
section
set_option maxRecDepth 100000
namespace Go.Pf
open Go Go.Ab Go.Pp Go.Proofs Go.Proofs.S04
attribute [local go_sem] Lxτ Lxγ gam0 Int.toNat_natCast tau3 tau4 tau28 tau29 tau31 tau35 tau42 tau44 eI eB eS e_Ins e_Block e_Func e_Prog e_code_writer e_code_reader e_Edge
set_option maxHeartbeats 1000000 in
theorem shape_kinds_ok (γ : GT) (ob : OT) {a0 : Func} {v0_0 : V} {v0_1 : V} {v0_4 : V} (hv0_0 : rdK (getO ob) 1 v0_0 = some (List.map (eI .i64) a0.Kinds)) (hv0_1 : rdK (getO ob) 1 v0_1 = some (List.map (eI .i64) a0.Base)) (hv0_4 : rdK (getO ob) 1 v0_4 = some (List.map e_Block a0.Blocks)) {r : Bool} (h : shape_kinds a0 = some r) :
  Valid (Lx γ) 35 [V.agg [v0_0, v0_1, vint .i64 a0.Params, vint .i64 a0.Result, v0_4]] ob (vbool r) ob := by
 refine valid_X (lx_ok γ) (fn := Tryd.f35) (rs := [.tmp 2]) Tryd.func35 (by kernel_rfl) rfl rfl Tryd.ntmps35 rfl (by simp) fun hb hob => ?_
 have hq := And.intro (rd4 hv0_0) (And.intro (rd4 hv0_1) (rd4 hv0_4))
 rw [shape_kinds] at h
 refine X_sr (lx_ok γ) ?_
 simp -implicitDefEqProofs only [go_sem, seval, hq]
 refine X_seq ?_
 refine X_seq ?_
 refine X_jq (J := fun as1 ob1 => ∃ (x2 : Bool), shape_kinds.j1 a0 x2 = some r ∧ [(1, V.ref ob.length 0), (18, vbool x2)] = as1 ∧ ob ++ [some (O.box [v0_0, v0_1, vint .i64 a0.Params, vint .i64 a0.Result, v0_4])] = ob1) ?_ ?_
 ·rintro as1 ob1 ⟨x2, h, rfl, rfl⟩
  rw [shape_kinds.j1] at h
  simp -implicitDefEqProofs only [go_sem, seval, hq]
  cases f1 : x2
  ·rw [if_neg (nF f1)] at h
   refine X_cond (lx_ok γ) ?_
   simp -implicitDefEqProofs only [go_sem, seval, f1, hq]
   refine X_skip ?_
   try simp -implicitDefEqProofs only [go_sem]
   refine X_seq ?_
   refine X_sr (lx_ok γ) ?_
   simp -implicitDefEqProofs only [go_sem, seval, f1, hq]
   refine X_jq (J := fun as1 ob1 => shape_kinds.k1 = some r ∧ [] = as1 ∧ ob = ob1) ?_ ?_
   ·rintro as1 ob1 ⟨h, rfl, rfl⟩
    rw [shape_kinds.k1] at h
    simp -implicitDefEqProofs only [go_sem, seval, f1, hq]
    refine X_sr (lx_ok γ) ?_
    simp -implicitDefEqProofs only [go_sem, seval, f1, hq]
    obtain rfl := sI h
    refine X_ret ?_
    simp -implicitDefEqProofs only [go_sem, seval, f1, hq]
    exact Rt.mv1 (BaseR.refl hob) (by simp) (vS)
   ·refine X_block ?_
    obtain ⟨lr1, hl1, hk1, hr1⟩ := aft2 h
    refine X_forN hl1 (fun (i1 : Nat) (s : Unit) as1 ob1 => [(1, V.ref ob.length 0), (20, v0_0), (21, vint .i64 (List.length a0.Kinds : Int)), (22, vint .i64 (i1 : Int))] = as1 ∧ ob ++ [some (O.box [v0_0, v0_1, vint .i64 a0.Params, vint .i64 a0.Result, v0_4])] = ob1) ⟨_, _, ?_, rfl, rfl⟩ ?_ ?_
    ·exact To.mv [(0, 0)] (BaseR.refl hob) (by simp) (by decide) (by simp only [go_sem]; exact ⟨VM.refA (j := 0) (t := 0) rfl, VM.self (by simpa using Bd.of_rdK hv0_0), vS, VM.eqv (by simp) (by simp)⟩) ⟨⟨_, rfl, OM.box _ _ ⟨VM.self (by simpa using Bd.of_rdK hv0_0), VM.self (by simpa using Bd.of_rdK hv0_1), vS, vS, VM.self (by simpa using Bd.of_rdK hv0_4), trivial⟩⟩, trivial⟩
    ·rintro i1 _ o1 hi1 hw1 h ho1 as1 ob1 ⟨rfl, rfl⟩
     rw [shape_kinds.b1] at h
     refine X_sr (lx_ok γ) ?_
     simp -implicitDefEqProofs only [go_sem, seval, f1, hi1, hq]
     refine X_seq ?_
     refine X_cond (lx_ok γ) ?_
     simp -implicitDefEqProofs only [go_sem, seval, f1, hi1, hq]
     refine X_skip ?_
     try simp -implicitDefEqProofs only [go_sem]
     refine X_seq ?_
     refine X_block ?_
     refine X_sr (lx_ok γ) ?_
     obtain ⟨x4, f2, h⟩ := bindE h
     obtain ⟨f3, f4⟩ := ixL_nat f2
     have f5 : (0 : Int) ≤ (i1 : Int) := Int.natCast_nonneg _
     simp -implicitDefEqProofs only [go_sem, seval, f1, hi1, hq, f3, f4, f5]
     refine X_sr (lx_ok γ) ?_
     obtain ⟨x5, f6, h⟩ := bindE h
     obtain ⟨f7, f8⟩ := ixL_nat f6
     have f9 : (0 : Int) ≤ (i1 : Int) := Int.natCast_nonneg _
     simp -implicitDefEqProofs only [go_sem, seval, f1, hi1, hq, f7, f8, f9]
     refine X_block ?_
     refine X_seq ?_
     refine X_jq (J := fun as1 ob1 => ∃ (x7 : Bool), shape_kinds.j2 a0 x4 x5 x7 = some o1 ∧ [(1, V.ref ob.length 0), (4, vint .i64 x4), (5, vint .i64 x5), (20, v0_0), (21, vint .i64 (List.length a0.Kinds : Int)), (22, vint .i64 (i1 : Int)), (32, vbool x7)] = as1 ∧ ob ++ [some (O.box [v0_0, v0_1, vint .i64 a0.Params, vint .i64 a0.Result, v0_4])] = ob1) ?_ ?_
     ·rintro as1 ob1 ⟨x7, h, rfl, rfl⟩
      rw [shape_kinds.j2] at h
      simp -implicitDefEqProofs only [go_sem, seval, f1, hi1, hq]
      cases f10 : x7
      ·rw [if_neg (nF f10)] at h
       refine X_cond (lx_ok γ) ?_
       simp -implicitDefEqProofs only [go_sem, seval, f1, hi1, f10, hq]
       refine X_sr (lx_ok γ) ?_
       cases f11 : (x4 != 2)
       ·rw [if_neg (nF f11)] at h
        obtain ⟨x8, f12, h⟩ := bindE h
        simp -implicitDefEqProofs only [go_sem, seval, f1, hi1, f10, f11, hq]
        refine callV_eq (shape_within_ok γ _  f12) rfl rfl ?_
        cases f13 : x8
        ·rw [if_neg (nF f13)] at h
         simp -implicitDefEqProofs only [go_sem, seval, f1, hi1, f10, f11, f13, hq]
         refine X_condT (lx_ok γ) rfl ?_
         refine X_sr (lx_ok γ) ?_
         simp -implicitDefEqProofs only [go_sem, seval, f1, hi1, f10, f11, f13, hq]
         obtain rfl := sI h
         have h := hr1 _ (ho1 (fun _ hs => nomatch hs))
         obtain rfl := sI h
         refine X_ret ?_
         simp -implicitDefEqProofs only [go_sem, seval, f1, hi1, f10, f11, f13, hq]
         exact Rt.mv0 (BaseR.refl hob) (by simp) (vS)
        ·rw [if_pos f13] at h
         obtain ⟨x9, f14, h⟩ := bindE h
         obtain ⟨f15, f16, f17⟩ := ixL_some f14
         try simp only [Int.toNat_natCast, Int.reduceToNat] at f17
         simp -implicitDefEqProofs only [go_sem, seval, f1, hi1, f10, f11, f13, hq, f15, f16, f17]
         cases f18 : (x9 != 1)
         ·rw [if_neg (nF f18)] at h
          refine X_cond (lx_ok γ) ?_
          simp -implicitDefEqProofs only [go_sem, seval, f1, hi1, f10, f11, f13, f18, hq, f15, f16, f17]
          refine X_skip ?_
          try simp -implicitDefEqProofs only [go_sem]
          refine X_reg (lx_ok γ) ?_
          obtain rfl := sI h
          simp -implicitDefEqProofs only [go_sem, seval, f1, hi1, f10, f11, f13, f18, hq]
          refine kR_in rfl ?_ ⟨rfl, rfl⟩
          exact To.mv [(0, 0)] (BaseR.refl hob) (by simp) (by decide) (by simp only [go_sem]; exact ⟨VM.refA (j := 0) (t := 0) rfl, VM.self (by simpa using Bd.of_rdK hv0_0), vS, VM.eqv (by rw [hw1]) (by simp)⟩) ⟨⟨_, rfl, OM.box _ _ ⟨VM.self (by simpa using Bd.of_rdK hv0_0), VM.self (by simpa using Bd.of_rdK hv0_1), vS, vS, VM.self (by simpa using Bd.of_rdK hv0_4), trivial⟩⟩, trivial⟩
         ·rw [if_pos f18] at h
          refine X_cond (lx_ok γ) ?_
          simp -implicitDefEqProofs only [go_sem, seval, f1, hi1, f10, f11, f13, f18, hq, f15, f16, f17]
          refine X_sr (lx_ok γ) ?_
          simp -implicitDefEqProofs only [go_sem, seval, f1, hi1, f10, f11, f13, f18, hq]
          obtain rfl := sI h
          have h := hr1 _ (ho1 (fun _ hs => nomatch hs))
          obtain rfl := sI h
          refine X_ret ?_
          simp -implicitDefEqProofs only [go_sem, seval, f1, hi1, f10, f11, f13, f18, hq]
          exact Rt.mv0 (BaseR.refl hob) (by simp) (vS)
       ·rw [if_pos f11] at h
        simp -implicitDefEqProofs only [go_sem, seval, f1, hi1, f10, f11, hq]
        refine X_condT (lx_ok γ) rfl ?_
        refine X_sr (lx_ok γ) ?_
        simp -implicitDefEqProofs only [go_sem, seval, f1, hi1, f10, f11, hq]
        obtain rfl := sI h
        have h := hr1 _ (ho1 (fun _ hs => nomatch hs))
        obtain rfl := sI h
        refine X_ret ?_
        simp -implicitDefEqProofs only [go_sem, seval, f1, hi1, f10, f11, hq]
        exact Rt.mv0 (BaseR.refl hob) (by simp) (vS)
      ·rw [if_pos f10] at h
       refine X_cond (lx_ok γ) ?_
       simp -implicitDefEqProofs only [go_sem, seval, f1, hi1, f10, hq]
       refine X_sr (lx_ok γ) ?_
       simp -implicitDefEqProofs only [go_sem, seval, f1, hi1, f10, hq]
       cases f19 : (x5 != (-1))
       ·rw [if_neg (nF f19)] at h
        refine X_cond (lx_ok γ) ?_
        simp -implicitDefEqProofs only [go_sem, seval, f1, hi1, f10, f19, hq]
        refine X_skip ?_
        try simp -implicitDefEqProofs only [go_sem]
        refine X_reg (lx_ok γ) ?_
        obtain rfl := sI h
        simp -implicitDefEqProofs only [go_sem, seval, f1, hi1, f10, f19, hq]
        refine kR_in rfl ?_ ⟨rfl, rfl⟩
        exact To.mv [(0, 0)] (BaseR.refl hob) (by simp) (by decide) (by simp only [go_sem]; exact ⟨VM.refA (j := 0) (t := 0) rfl, VM.self (by simpa using Bd.of_rdK hv0_0), vS, VM.eqv (by rw [hw1]) (by simp)⟩) ⟨⟨_, rfl, OM.box _ _ ⟨VM.self (by simpa using Bd.of_rdK hv0_0), VM.self (by simpa using Bd.of_rdK hv0_1), vS, vS, VM.self (by simpa using Bd.of_rdK hv0_4), trivial⟩⟩, trivial⟩
       ·rw [if_pos f19] at h
        refine X_cond (lx_ok γ) ?_
        simp -implicitDefEqProofs only [go_sem, seval, f1, hi1, f10, f19, hq]
        refine X_sr (lx_ok γ) ?_
        simp -implicitDefEqProofs only [go_sem, seval, f1, hi1, f10, f19, hq]
        obtain rfl := sI h
        have h := hr1 _ (ho1 (fun _ hs => nomatch hs))
        obtain rfl := sI h
        refine X_ret ?_
        simp -implicitDefEqProofs only [go_sem, seval, f1, hi1, f10, f19, hq]
        exact Rt.mv0 (BaseR.refl hob) (by simp) (vS)
     ·refine X_reg (lx_ok γ) ?_
      cases f20 : (x4 == 0)
      ·rw [if_neg (nF f20)] at h
       simp -implicitDefEqProofs only [go_sem, seval, f1, hi1, f20, hq]
       refine kJ_in ?_ ⟨(x4 == 1), h, rfl, rfl⟩
       exact To.mv [(0, 0)] (BaseR.refl hob) (by simp) (by decide) (by simp only [go_sem]; exact ⟨VM.refA (j := 0) (t := 0) rfl, vS, vS, VM.self (by simpa using Bd.of_rdK hv0_0), vS, vS, vS⟩) ⟨⟨_, rfl, OM.box _ _ ⟨VM.self (by simpa using Bd.of_rdK hv0_0), VM.self (by simpa using Bd.of_rdK hv0_1), vS, vS, VM.self (by simpa using Bd.of_rdK hv0_4), trivial⟩⟩, trivial⟩
      ·rw [if_pos f20] at h
       simp -implicitDefEqProofs only [go_sem, seval, f1, hi1, f20, hq]
       refine kJ_in ?_ ⟨true, h, rfl, rfl⟩
       exact To.mv [(0, 0)] (BaseR.refl hob) (by simp) (by decide) (by simp only [go_sem]; exact ⟨VM.refA (j := 0) (t := 0) rfl, vS, vS, VM.self (by simpa using Bd.of_rdK hv0_0), vS, vS, vS⟩) ⟨⟨_, rfl, OM.box _ _ ⟨VM.self (by simpa using Bd.of_rdK hv0_0), VM.self (by simpa using Bd.of_rdK hv0_1), vS, vS, VM.self (by simpa using Bd.of_rdK hv0_4), trivial⟩⟩, trivial⟩
    ·rintro i1 _ hi1 hn1 as1 ob1 ⟨rfl, rfl⟩
     refine X_sr (lx_ok γ) ?_
     simp -implicitDefEqProofs only [go_sem, seval, f1, hi1, hq]
     refine X_seq ?_
     refine X_cond (lx_ok γ) ?_
     simp -implicitDefEqProofs only [go_sem, seval, f1, hi1, hq]
     have h := hk1 _ (.inl hn1)
     refine X_exit ?_
     try simp -implicitDefEqProofs only [go_sem, ↓reduceIte, Nat.reduceEqDiff, reduceCtorEq]
     refine kJ_in ?_ ⟨h, rfl, rfl⟩
     exact To.mv0 (BaseR.refl hob) (by simp) trivial
  ·rw [if_pos f1] at h
   refine X_cond (lx_ok γ) ?_
   simp -implicitDefEqProofs only [go_sem, seval, f1, hq]
   refine X_sr (lx_ok γ) ?_
   simp -implicitDefEqProofs only [go_sem, seval, f1, hq]
   obtain rfl := sI h
   refine X_ret ?_
   simp -implicitDefEqProofs only [go_sem, seval, f1, hq]
   exact Rt.mv0 (BaseR.refl hob) (by simp) (vS)
 ·refine X_reg (lx_ok γ) ?_
  cases f21 : decide (48 < (List.length a0.Kinds : Int))
  ·rw [if_neg (nF f21)] at h
   simp -implicitDefEqProofs only [go_sem, seval, f21, hq]
   refine kJ_in ?_ ⟨((List.length a0.Base : Int) != (List.length a0.Kinds : Int)), h, rfl, rfl⟩
   exact To.mv [(0, 0)] (BaseR.refl hob) (by simp) (by decide) (by simp only [go_sem]; exact ⟨VM.refA (j := 0) (t := 0) rfl, vS⟩) ⟨⟨_, rfl, OM.box _ _ ⟨VM.self (by simpa using Bd.of_rdK hv0_0), VM.self (by simpa using Bd.of_rdK hv0_1), vS, vS, VM.self (by simpa using Bd.of_rdK hv0_4), trivial⟩⟩, trivial⟩
  ·rw [if_pos f21] at h
   simp -implicitDefEqProofs only [go_sem, seval, f21, hq]
   refine kJ_in ?_ ⟨true, h, rfl, rfl⟩
   exact To.mv [(0, 0)] (BaseR.refl hob) (by simp) (by decide) (by simp only [go_sem]; exact ⟨VM.refA (j := 0) (t := 0) rfl, vS⟩) ⟨⟨_, rfl, OM.box _ _ ⟨VM.self (by simpa using Bd.of_rdK hv0_0), VM.self (by simpa using Bd.of_rdK hv0_1), vS, vS, VM.self (by simpa using Bd.of_rdK hv0_4), trivial⟩⟩, trivial⟩
end Go.Pf
end
section
set_option maxRecDepth 100000
namespace Go.Pf
open Go Go.Ab Go.Pp Go.Proofs Go.Proofs.S04
attribute [local go_sem] Lxτ Lxγ gam0 Int.toNat_natCast tau3 tau28 eI eB eS e_Ins e_Block e_Func e_Prog e_code_writer e_code_reader e_Edge
set_option maxHeartbeats 1000000 in
theorem slices_Index_int_ok (γ : GT) (ob : OT) {a0 : List Int} {v0 : V} {a1 : Int} (hv0 : rdK (getO ob) 1 v0 = some (List.map (eI .i64) a0)) {r : Int} (h : slices_Index_int a0 a1 = some r) :
  Valid (Lx γ) 70 [v0, vint .i64 a1] ob (vint .i64 r) ob := by
 refine valid_X (lx_ok γ) (fn := Tryd.f70) (rs := [.tmp 4]) Tryd.func70 (by kernel_rfl) rfl rfl Tryd.ntmps70 rfl (by simp) fun hb hob => ?_
 have hq := rd4 hv0
 rw [slices_Index_int] at h
 refine X_sr (lx_ok γ) ?_
 simp -implicitDefEqProofs only [go_sem, seval, hq]
 refine X_seq ?_
 refine X_sr (lx_ok γ) ?_
 simp -implicitDefEqProofs only [go_sem, seval, hq]
 refine X_jq (J := fun as1 ob1 => slices_Index_int.k1 = some r ∧ [] = as1 ∧ ob = ob1) ?_ ?_
 ·rintro as1 ob1 ⟨h, rfl, rfl⟩
  rw [slices_Index_int.k1] at h
  simp -implicitDefEqProofs only [go_sem, seval, hq]
  refine X_sr (lx_ok γ) ?_
  simp -implicitDefEqProofs only [go_sem, seval, hq]
  obtain rfl := sI h
  refine X_ret ?_
  simp -implicitDefEqProofs only [go_sem, seval, hq]
  exact Rt.mv1 (BaseR.refl hob) (by simp) (vS)
 ·refine X_block ?_
  obtain ⟨lr1, hl1, hk1, hr1⟩ := aft2 h
  refine X_forN hl1 (fun (i1 : Nat) (s : Unit) as1 ob1 => [(0, v0), (1, vint .i64 a1), (7, vint .i64 (List.length a0 : Int)), (8, vint .i64 (i1 : Int))] = as1 ∧ ob = ob1) ⟨_, _, ?_, rfl, rfl⟩ ?_ ?_
  ·exact To.mv1 (BaseR.refl hob) (by simp) (by simp only [go_sem]; exact ⟨VM.self (by simpa using Bd.of_rdK hv0), vS, vS, VM.eqv (by simp) (by simp)⟩)
  ·rintro i1 _ o1 hi1 hw1 h ho1 as1 ob1 ⟨rfl, rfl⟩
   rw [slices_Index_int.b1] at h
   refine X_sr (lx_ok γ) ?_
   simp -implicitDefEqProofs only [go_sem, seval, hi1, hq]
   refine X_seq ?_
   refine X_cond (lx_ok γ) ?_
   simp -implicitDefEqProofs only [go_sem, seval, hi1, hq]
   refine X_skip ?_
   try simp -implicitDefEqProofs only [go_sem]
   refine X_seq ?_
   refine X_block ?_
   refine X_sr (lx_ok γ) ?_
   simp -implicitDefEqProofs only [go_sem, seval, hi1, hq]
   refine X_sr (lx_ok γ) ?_
   obtain ⟨x2, f1, h⟩ := bindE h
   obtain ⟨f2, f3⟩ := ixL_nat f1
   have f4 : (0 : Int) ≤ (i1 : Int) := Int.natCast_nonneg _
   simp -implicitDefEqProofs only [go_sem, seval, hi1, hq, f2, f3, f4]
   cases f5 : (a1 == x2)
   ·rw [if_neg (nF f5)] at h
    refine X_cond (lx_ok γ) ?_
    simp -implicitDefEqProofs only [go_sem, seval, hi1, f5, hq, f2, f3, f4]
    refine X_skip ?_
    try simp -implicitDefEqProofs only [go_sem]
    refine X_reg (lx_ok γ) ?_
    obtain rfl := sI h
    simp -implicitDefEqProofs only [go_sem, seval, hi1, f5, hq]
    refine kR_in rfl ?_ ⟨rfl, rfl⟩
    exact To.mv1 (BaseR.refl hob) (by simp) (by simp only [go_sem]; exact ⟨VM.self (by simpa using Bd.of_rdK hv0), vS, vS, VM.eqv (by rw [hw1]) (by simp)⟩)
   ·rw [if_pos f5] at h
    refine X_cond (lx_ok γ) ?_
    simp -implicitDefEqProofs only [go_sem, seval, hi1, f5, hq, f2, f3, f4]
    refine X_sr (lx_ok γ) ?_
    simp -implicitDefEqProofs only [go_sem, seval, hi1, f5, hq]
    obtain rfl := sI h
    have h := hr1 _ (ho1 (fun _ hs => nomatch hs))
    obtain rfl := sI h
    refine X_ret ?_
    simp -implicitDefEqProofs only [go_sem, seval, hi1, f5, hq]
    exact Rt.mv1 (BaseR.refl hob) (by simp) (vS)
  ·rintro i1 _ hi1 hn1 as1 ob1 ⟨rfl, rfl⟩
   refine X_sr (lx_ok γ) ?_
   simp -implicitDefEqProofs only [go_sem, seval, hi1, hq]
   refine X_seq ?_
   refine X_cond (lx_ok γ) ?_
   simp -implicitDefEqProofs only [go_sem, seval, hi1, hq]
   have h := hk1 _ (.inl hn1)
   refine X_exit ?_
   try simp -implicitDefEqProofs only [go_sem, ↓reduceIte, Nat.reduceEqDiff, reduceCtorEq]
   refine kJ_in ?_ ⟨h, rfl, rfl⟩
   exact To.mv1 (BaseR.refl hob) (by simp) trivial
end Go.Pf
end
section
set_option maxRecDepth 100000
namespace Go.Pf
open Go Go.Ab Go.Pp Go.Proofs Go.Proofs.S04
attribute [local go_sem] Lxτ Lxγ gam0 Int.toNat_natCast tau3 tau28 eI eB eS e_Ins e_Block e_Func e_Prog e_code_writer e_code_reader e_Edge
set_option maxHeartbeats 1000000 in
theorem slices_Contains_int_ok (γ : GT) (ob : OT) {a0 : List Int} {v0 : V} {a1 : Int} (hv0 : rdK (getO ob) 1 v0 = some (List.map (eI .i64) a0)) {r : Bool} (h : slices_Contains_int a0 a1 = some r) :
  Valid (Lx γ) 37 [v0, vint .i64 a1] ob (vbool r) ob := by
 refine valid_X (lx_ok γ) (fn := Tryd.f37) (rs := [.tmp 4]) Tryd.func37 (by kernel_rfl) rfl rfl Tryd.ntmps37 rfl (by simp) fun hb hob => ?_
 have hq := rd4 hv0
 rw [slices_Contains_int] at h
 refine X_sr (lx_ok γ) ?_
 simp -implicitDefEqProofs only [go_sem, seval, hq]
 refine X_sr (lx_ok γ) ?_
 obtain ⟨x1, f1, h⟩ := bindE h
 simp -implicitDefEqProofs only [go_sem, seval, hq]
 refine callV_eq (slices_Index_int_ok γ _ (by first | exact rdK_app hv0 | exact hv0) f1) rfl rfl ?_
 simp -implicitDefEqProofs only [go_sem, seval, hq]
 obtain rfl := sI h
 refine X_ret ?_
 simp -implicitDefEqProofs only [go_sem, seval, hq]
 exact Rt.mv1 (BaseR.refl hob) (by simp) (vS)
end Go.Pf
end
section
set_option maxRecDepth 100000
namespace Go.Pf
open Go Go.Ab Go.Pp Go.Proofs Go.Proofs.S04
attribute [local go_sem] Lxτ Lxγ gam0 Int.toNat_natCast tau3 tau28 tau29 tau35 tau42 tau44 eI eB eS e_Ins e_Block e_Func e_Prog e_code_writer e_code_reader e_Edge
set_option maxHeartbeats 1000000 in
theorem slices_IndexFunc_Block_ok (γ : GT) (ob : OT) {a0 : List Block} {v0 : V} {a1 : Block → Option (Bool)} {w1 : V} (hv0 : rdK (getO ob) 1 v0 = some (List.map e_Block a0)) (hf1 : ∀ (ob1 : OT), ob <+: ob1 → ∀ (y0 : Block) (r : Bool), a1 y0 = some r → FnV (Lx γ) w1 [V.agg [V.tr (.sl 7 false (List.map e_Ins y0.Code))]] ob1 (vbool r) ob1) {r : Int} (h : slices_IndexFunc_Block a0 a1 = some r) :
  Valid (Lx γ) 71 [v0, w1] ob (vint .i64 r) ob := by
 refine valid_X (lx_ok γ) (fn := Tryd.f71) (rs := [.tmp 4]) Tryd.func71 (by kernel_rfl) rfl rfl Tryd.ntmps71 rfl (by simp) fun hb hob => ?_
 have hq := rd4 hv0
 rw [slices_IndexFunc_Block] at h
 refine X_sr (lx_ok γ) ?_
 simp -implicitDefEqProofs only [go_sem, seval, hq]
 refine X_seq ?_
 refine X_sr (lx_ok γ) ?_
 simp -implicitDefEqProofs only [go_sem, seval, hq]
 refine X_jq (J := fun as1 ob1 => slices_IndexFunc_Block.k1 = some r ∧ [] = as1 ∧ ob = ob1) ?_ ?_
 ·rintro as1 ob1 ⟨h, rfl, rfl⟩
  rw [slices_IndexFunc_Block.k1] at h
  simp -implicitDefEqProofs only [go_sem, seval, hq]
  refine X_sr (lx_ok γ) ?_
  simp -implicitDefEqProofs only [go_sem, seval, hq]
  obtain rfl := sI h
  refine X_ret ?_
  simp -implicitDefEqProofs only [go_sem, seval, hq]
  exact Rt.mv1 (BaseR.refl hob) (by simp) (vS)
 ·refine X_block ?_
  obtain ⟨lr1, hl1, hk1, hr1⟩ := aft2 h
  refine X_forN hl1 (fun (i1 : Nat) (s : Unit) as1 ob1 => [(0, v0), (1, w1), (7, vint .i64 (List.length a0 : Int)), (8, vint .i64 (i1 : Int))] = as1 ∧ ob = ob1) ⟨_, _, ?_, rfl, rfl⟩ ?_ ?_
  ·exact To.mv1 (BaseR.refl hob) (by simp) (by simp only [go_sem]; exact ⟨VM.self (by simpa using Bd.of_rdK hv0), VM.self (by simpa using hb w1 (by simp)), vS, VM.eqv (by simp) (by simp)⟩)
  ·rintro i1 _ o1 hi1 hw1 h ho1 as1 ob1 ⟨rfl, rfl⟩
   rw [slices_IndexFunc_Block.b1] at h
   refine X_sr (lx_ok γ) ?_
   simp -implicitDefEqProofs only [go_sem, seval, hi1, hq]
   refine X_seq ?_
   refine X_cond (lx_ok γ) ?_
   simp -implicitDefEqProofs only [go_sem, seval, hi1, hq]
   refine X_skip ?_
   try simp -implicitDefEqProofs only [go_sem]
   refine X_seq ?_
   refine X_block ?_
   refine X_sr (lx_ok γ) ?_
   simp -implicitDefEqProofs only [go_sem, seval, hi1, hq]
   refine X_sr (lx_ok γ) ?_
   obtain ⟨x2, f1, h⟩ := bindE h
   obtain ⟨f2, f3⟩ := ixL_nat f1
   have f4 : (0 : Int) ≤ (i1 : Int) := Int.natCast_nonneg _
   obtain ⟨x3, f5, h⟩ := bindE h
   simp -implicitDefEqProofs only [go_sem, seval, hi1, hq, f2, f3, f4]
   refine callV_fn (hf1 _ List.prefix_rfl _ _ f5) rfl rfl ?_
   simp -implicitDefEqProofs only [go_sem, seval, hi1, hq, f2, f3, f4]
   cases f6 : x3
   ·rw [if_neg (nF f6)] at h
    refine X_cond (lx_ok γ) ?_
    simp -implicitDefEqProofs only [go_sem, seval, hi1, f6, hq, f2, f3, f4]
    refine X_skip ?_
    try simp -implicitDefEqProofs only [go_sem]
    refine X_reg (lx_ok γ) ?_
    obtain rfl := sI h
    simp -implicitDefEqProofs only [go_sem, seval, hi1, f6, hq]
    refine kR_in rfl ?_ ⟨rfl, rfl⟩
    exact To.mv1 (BaseR.refl hob) (by simp) (by simp only [go_sem]; exact ⟨VM.self (by simpa using Bd.of_rdK hv0), VM.self (by simpa using hb w1 (by simp)), vS, VM.eqv (by rw [hw1]) (by simp)⟩)
   ·rw [if_pos f6] at h
    refine X_cond (lx_ok γ) ?_
    simp -implicitDefEqProofs only [go_sem, seval, hi1, f6, hq, f2, f3, f4]
    refine X_sr (lx_ok γ) ?_
    simp -implicitDefEqProofs only [go_sem, seval, hi1, f6, hq]
    obtain rfl := sI h
    have h := hr1 _ (ho1 (fun _ hs => nomatch hs))
    obtain rfl := sI h
    refine X_ret ?_
    simp -implicitDefEqProofs only [go_sem, seval, hi1, f6, hq]
    exact Rt.mv1 (BaseR.refl hob) (by simp) (vS)
  ·rintro i1 _ hi1 hn1 as1 ob1 ⟨rfl, rfl⟩
   refine X_sr (lx_ok γ) ?_
   simp -implicitDefEqProofs only [go_sem, seval, hi1, hq]
   refine X_seq ?_
   refine X_cond (lx_ok γ) ?_
   simp -implicitDefEqProofs only [go_sem, seval, hi1, hq]
   have h := hk1 _ (.inl hn1)
   refine X_exit ?_
   try simp -implicitDefEqProofs only [go_sem, ↓reduceIte, Nat.reduceEqDiff, reduceCtorEq]
   refine kJ_in ?_ ⟨h, rfl, rfl⟩
   exact To.mv1 (BaseR.refl hob) (by simp) trivial
end Go.Pf
end
section
set_option maxRecDepth 100000
namespace Go.Pf
open Go Go.Ab Go.Pp Go.Proofs Go.Proofs.S04
attribute [local go_sem] Lxτ Lxγ gam0 Int.toNat_natCast tau3 tau28 tau29 tau35 tau42 tau44 tau59 eI eB eS e_Ins e_Block e_Func e_Prog e_code_writer e_code_reader e_Edge
set_option maxHeartbeats 1000000 in
theorem slices_ContainsFunc_Block_ok (γ : GT) (ob : OT) {a0 : List Block} {v0 : V} {a1 : Block → Option (Bool)} {w1 : V} (hv0 : rdK (getO ob) 1 v0 = some (List.map e_Block a0)) (hf1 : ∀ (ob1 : OT), ob <+: ob1 → ∀ (y0 : Block) (r : Bool), a1 y0 = some r → FnV (Lx γ) w1 [V.agg [V.tr (.sl 7 false (List.map e_Ins y0.Code))]] ob1 (vbool r) ob1) {r : Bool} (h : slices_ContainsFunc_Block a0 a1 = some r) :
  Valid (Lx γ) 38 [v0, w1] ob (vbool r) ob := by
 refine valid_X (lx_ok γ) (fn := Tryd.f38) (rs := [.tmp 4]) Tryd.func38 (by kernel_rfl) rfl rfl Tryd.ntmps38 rfl (by simp) fun hb hob => ?_
 have hq := rd4 hv0
 rw [slices_ContainsFunc_Block] at h
 refine X_sr (lx_ok γ) ?_
 simp -implicitDefEqProofs only [go_sem, seval, hq]
 refine X_sr (lx_ok γ) ?_
 obtain ⟨x1, f1, h⟩ := bindE h
 simp -implicitDefEqProofs only [go_sem, seval, hq]
 refine callV_eq (slices_IndexFunc_Block_ok γ _ (by first | exact rdK_app hv0 | exact hv0) hf1 f1) rfl rfl ?_
 simp -implicitDefEqProofs only [go_sem, seval, hq]
 obtain rfl := sI h
 refine X_ret ?_
 simp -implicitDefEqProofs only [go_sem, seval, hq]
 exact Rt.mv1 (BaseR.refl hob) (by simp) (vS)
end Go.Pf
end
section
set_option maxRecDepth 100000
namespace Go.Pf
open Go Go.Ab Go.Pp Go.Proofs Go.Proofs.S04
attribute [local go_sem] Lxτ Lxγ gam0 Int.toNat_natCast tau3 tau28 tau35 tau42 eI eB eS e_Ins e_Block e_Func e_Prog e_code_writer e_code_reader e_Edge
set_option maxHeartbeats 1000000 in
theorem slices_IndexFunc_Ins_ok (γ : GT) (ob : OT) {a0 : List Ins} {v0 : V} {a1 : Ins → Option (Bool)} {w1 : V} (hv0 : rdK (getO ob) 7 v0 = some (List.map e_Ins a0)) (hf1 : ∀ (ob1 : OT), ob <+: ob1 → ∀ (y0 : Ins) (r : Bool), a1 y0 = some r → FnV (Lx γ) w1 [V.agg [vint .i64 y0.Op, vint .i64 y0.D, vint .i64 y0.A, vint .i64 y0.B, vint .i64 y0.N, vint .i64 y0.M, V.tr (.sl 1 false (List.map (eI .i64) y0.Args))]] ob1 (vbool r) ob1) {r : Int} (h : slices_IndexFunc_Ins a0 a1 = some r) :
  Valid (Lx γ) 72 [v0, w1] ob (vint .i64 r) ob := by
 refine valid_X (lx_ok γ) (fn := Tryd.f72) (rs := [.tmp 4]) Tryd.func72 (by kernel_rfl) rfl rfl Tryd.ntmps72 rfl (by simp) fun hb hob => ?_
 have hq := rd4 hv0
 rw [slices_IndexFunc_Ins] at h
 refine X_sr (lx_ok γ) ?_
 simp -implicitDefEqProofs only [go_sem, seval, hq]
 refine X_seq ?_
 refine X_sr (lx_ok γ) ?_
 simp -implicitDefEqProofs only [go_sem, seval, hq]
 refine X_jq (J := fun as1 ob1 => slices_IndexFunc_Ins.k1 = some r ∧ [] = as1 ∧ ob = ob1) ?_ ?_
 ·rintro as1 ob1 ⟨h, rfl, rfl⟩
  rw [slices_IndexFunc_Ins.k1] at h
  simp -implicitDefEqProofs only [go_sem, seval, hq]
  refine X_sr (lx_ok γ) ?_
  simp -implicitDefEqProofs only [go_sem, seval, hq]
  obtain rfl := sI h
  refine X_ret ?_
  simp -implicitDefEqProofs only [go_sem, seval, hq]
  exact Rt.mv1 (BaseR.refl hob) (by simp) (vS)
 ·refine X_block ?_
  obtain ⟨lr1, hl1, hk1, hr1⟩ := aft2 h
  refine X_forN hl1 (fun (i1 : Nat) (s : Unit) as1 ob1 => [(0, v0), (1, w1), (7, vint .i64 (List.length a0 : Int)), (8, vint .i64 (i1 : Int))] = as1 ∧ ob = ob1) ⟨_, _, ?_, rfl, rfl⟩ ?_ ?_
  ·exact To.mv1 (BaseR.refl hob) (by simp) (by simp only [go_sem]; exact ⟨VM.self (by simpa using Bd.of_rdK hv0), VM.self (by simpa using hb w1 (by simp)), vS, VM.eqv (by simp) (by simp)⟩)
  ·rintro i1 _ o1 hi1 hw1 h ho1 as1 ob1 ⟨rfl, rfl⟩
   rw [slices_IndexFunc_Ins.b1] at h
   refine X_sr (lx_ok γ) ?_
   simp -implicitDefEqProofs only [go_sem, seval, hi1, hq]
   refine X_seq ?_
   refine X_cond (lx_ok γ) ?_
   simp -implicitDefEqProofs only [go_sem, seval, hi1, hq]
   refine X_skip ?_
   try simp -implicitDefEqProofs only [go_sem]
   refine X_seq ?_
   refine X_block ?_
   refine X_sr (lx_ok γ) ?_
   simp -implicitDefEqProofs only [go_sem, seval, hi1, hq]
   refine X_sr (lx_ok γ) ?_
   obtain ⟨x2, f1, h⟩ := bindE h
   obtain ⟨f2, f3⟩ := ixL_nat f1
   have f4 : (0 : Int) ≤ (i1 : Int) := Int.natCast_nonneg _
   obtain ⟨x3, f5, h⟩ := bindE h
   simp -implicitDefEqProofs only [go_sem, seval, hi1, hq, f2, f3, f4]
   refine callV_fn (hf1 _ List.prefix_rfl _ _ f5) rfl rfl ?_
   simp -implicitDefEqProofs only [go_sem, seval, hi1, hq, f2, f3, f4]
   cases f6 : x3
   ·rw [if_neg (nF f6)] at h
    refine X_cond (lx_ok γ) ?_
    simp -implicitDefEqProofs only [go_sem, seval, hi1, f6, hq, f2, f3, f4]
    refine X_skip ?_
    try simp -implicitDefEqProofs only [go_sem]
    refine X_reg (lx_ok γ) ?_
    obtain rfl := sI h
    simp -implicitDefEqProofs only [go_sem, seval, hi1, f6, hq]
    refine kR_in rfl ?_ ⟨rfl, rfl⟩
    exact To.mv1 (BaseR.refl hob) (by simp) (by simp only [go_sem]; exact ⟨VM.self (by simpa using Bd.of_rdK hv0), VM.self (by simpa using hb w1 (by simp)), vS, VM.eqv (by rw [hw1]) (by simp)⟩)
   ·rw [if_pos f6] at h
    refine X_cond (lx_ok γ) ?_
    simp -implicitDefEqProofs only [go_sem, seval, hi1, f6, hq, f2, f3, f4]
    refine X_sr (lx_ok γ) ?_
    simp -implicitDefEqProofs only [go_sem, seval, hi1, f6, hq]
    obtain rfl := sI h
    have h := hr1 _ (ho1 (fun _ hs => nomatch hs))
    obtain rfl := sI h
    refine X_ret ?_
    simp -implicitDefEqProofs only [go_sem, seval, hi1, f6, hq]
    exact Rt.mv1 (BaseR.refl hob) (by simp) (vS)
  ·rintro i1 _ hi1 hn1 as1 ob1 ⟨rfl, rfl⟩
   refine X_sr (lx_ok γ) ?_
   simp -implicitDefEqProofs only [go_sem, seval, hi1, hq]
   refine X_seq ?_
   refine X_cond (lx_ok γ) ?_
   simp -implicitDefEqProofs only [go_sem, seval, hi1, hq]
   have h := hk1 _ (.inl hn1)
   refine X_exit ?_
   try simp -implicitDefEqProofs only [go_sem, ↓reduceIte, Nat.reduceEqDiff, reduceCtorEq]
   refine kJ_in ?_ ⟨h, rfl, rfl⟩
   exact To.mv1 (BaseR.refl hob) (by simp) trivial
end Go.Pf
end
section
set_option maxRecDepth 100000
namespace Go.Pf
open Go Go.Ab Go.Pp Go.Proofs Go.Proofs.S04
attribute [local go_sem] Lxτ Lxγ gam0 Int.toNat_natCast tau3 eI eB eS e_Ins e_Block e_Func e_Prog e_code_writer e_code_reader e_Edge
set_option maxHeartbeats 1000000 in
theorem shape_Last_ok (γ : GT) (ob : OT) {a0 : Int} {r : Bool} (h : shape_Last a0 = some r) :
  Valid (Lx γ) 19 [vint .i64 a0] ob (vbool r) ob := by
 refine valid_X (lx_ok γ) (fn := Tryd.f19) (rs := [.tmp 2]) Tryd.func19 (by kernel_rfl) rfl rfl Tryd.ntmps19 rfl (by simp) fun hb hob => ?_
 rw [shape_Last] at h
 refine X_sr (lx_ok γ) ?_
 simp -implicitDefEqProofs only [go_sem, seval]
 refine X_sr (lx_ok γ) ?_
 obtain ⟨x1, f1, h⟩ := bindE h
 simp -implicitDefEqProofs only [go_sem, seval]
 refine callV_eq (shape_within_ok γ _  f1) rfl rfl ?_
 simp -implicitDefEqProofs only [go_sem, seval]
 obtain rfl := sI h
 refine X_ret ?_
 simp -implicitDefEqProofs only [go_sem, seval]
 exact Rt.mv1 (BaseR.refl hob) (by simp) (vS)
end Go.Pf
end
section
set_option maxRecDepth 100000
namespace Go.Pf
open Go Go.Ab Go.Pp Go.Proofs Go.Proofs.S04
attribute [local go_sem] Lxτ Lxγ gam0 Int.toNat_natCast tau3 tau28 tau35 eI eB eS e_Ins e_Block e_Func e_Prog e_code_writer e_code_reader e_Edge
set_option maxHeartbeats 1000000 in
theorem shape_block_1_ok (γ : GT) (ob : OT) {a0 : Ins} {v0_6 : V} (hv0_6 : rdK (getO ob) 1 v0_6 = some (List.map (eI .i64) a0.Args)) {r : Bool} (h : shape_block_1 a0 = some r) :
  Valid (Lx γ) 73 [V.agg [vint .i64 a0.Op, vint .i64 a0.D, vint .i64 a0.A, vint .i64 a0.B, vint .i64 a0.N, vint .i64 a0.M, v0_6]] ob (vbool r) ob := by
 refine valid_X (lx_ok γ) (fn := Tryd.f73) (rs := [.tmp 2]) Tryd.func73 (by kernel_rfl) rfl rfl Tryd.ntmps73 rfl (by simp) fun hb hob => ?_
 have hq := rd4 hv0_6
 rw [shape_block_1] at h
 refine X_sr (lx_ok γ) ?_
 simp -implicitDefEqProofs only [go_sem, seval, hq]
 refine X_sr (lx_ok γ) ?_
 obtain ⟨x1, f1, h⟩ := bindE h
 simp -implicitDefEqProofs only [go_sem, seval, hq]
 refine callV_eq (shape_Last_ok γ _  f1) rfl rfl ?_
 simp -implicitDefEqProofs only [go_sem, seval, hq]
 obtain rfl := sI h
 refine X_ret ?_
 simp -implicitDefEqProofs only [go_sem, seval, hq]
 exact Rt.mv0 (BaseR.refl hob) (by simp) (vS)
end Go.Pf
end
section
set_option maxRecDepth 100000
namespace Go.Pf
open Go Go.Ab Go.Pp Go.Proofs Go.Proofs.S04
attribute [local go_sem] Lxτ Lxγ gam0 Int.toNat_natCast tau3 tau28 tau35 tau42 tau44 tau61 eI eB eS e_Ins e_Block e_Func e_Prog e_code_writer e_code_reader e_Edge
set_option maxHeartbeats 1000000 in
theorem shape_block_ok (γ : GT) (ob : OT) {a0 : Block} {v0_0 : V} (hv0_0 : rdK (getO ob) 7 v0_0 = some (List.map e_Ins a0.Code)) {r : Bool} (h : shape_block a0 = some r) :
  Valid (Lx γ) 40 [V.agg [v0_0]] ob (vbool r) ob := by
 refine valid_X (lx_ok γ) (fn := Tryd.f40) (rs := [.tmp 2]) Tryd.func40 (by kernel_rfl) rfl rfl Tryd.ntmps40 rfl (by simp) fun hb hob => ?_
 have hq := rd4 hv0_0
 rw [shape_block] at h
 refine X_sr (lx_ok γ) ?_
 simp -implicitDefEqProofs only [go_sem, seval, hq]
 refine X_sr (lx_ok γ) ?_
 simp -implicitDefEqProofs only [go_sem, seval, hq]
 refine X_sr (lx_ok γ) ?_
 obtain ⟨x1, f1, h⟩ := bindE h
 simp -implicitDefEqProofs only [go_sem, seval, hq]
 refine callV_eq (shape_within_ok γ _  f1) rfl rfl ?_
 cases f2 : x1
 ·rw [if_neg (nF f2)] at h
  simp -implicitDefEqProofs only [go_sem, seval, f2, hq]
  obtain rfl := sI h
  refine X_ret ?_
  simp -implicitDefEqProofs only [go_sem, seval, f2, hq]
  exact Rt.mv0 (BaseR.refl hob) (by simp) (vS)
 ·rw [if_pos f2] at h
  obtain ⟨x2, f3, h⟩ := bindE h
  simp -implicitDefEqProofs only [go_sem, seval, f2, hq]
  refine callV_eq (slices_IndexFunc_Ins_ok γ _ (by first | exact rdK_app hv0_0 | exact hv0_0) (fun ob1 hp y0 r hx => by obtain ⟨l, rfl⟩ := hp; exact shape_block_1_ok γ _ (by simp -implicitDefEqProofs only [go_sem, seval, f2, hq]; try rfl) hx) f3) rfl rfl ?_
  simp -implicitDefEqProofs only [go_sem, seval, f2, hq]
  obtain rfl := sI h
  refine X_ret ?_
  simp -implicitDefEqProofs only [go_sem, seval, f2, hq]
  exact Rt.mv0 (BaseR.refl hob) (by simp) (vS)
end Go.Pf
end
section
set_option maxRecDepth 100000
namespace Go.Pf
open Go Go.Ab Go.Pp Go.Proofs Go.Proofs.S04
attribute [local go_sem] Lxτ Lxγ gam0 Int.toNat_natCast tau3 tau4 tau28 tau35 tau42 tau44 eI eB eS e_Ins e_Block e_Func e_Prog e_code_writer e_code_reader e_Edge
set_option maxHeartbeats 1000000 in
theorem shape_Func_1_ok (γ : GT) (ob : OT) {a0 : Block} {v0_0 : V} (hv0_0 : rdK (getO ob) 7 v0_0 = some (List.map e_Ins a0.Code)) {r : Bool} (h : shape_Func_1 a0 = some r) :
  Valid (Lx γ) 39 [V.agg [v0_0]] ob (vbool r) ob := by
 refine valid_X (lx_ok γ) (fn := Tryd.f39) (rs := [.tmp 2]) Tryd.func39 (by kernel_rfl) rfl rfl Tryd.ntmps39 rfl (by simp) fun hb hob => ?_
 have hq := rd4 hv0_0
 rw [shape_Func_1] at h
 refine X_sr (lx_ok γ) ?_
 simp -implicitDefEqProofs only [go_sem, seval, hq]
 refine X_sr (lx_ok γ) ?_
 obtain ⟨x1, f1, h⟩ := bindE h
 simp -implicitDefEqProofs only [go_sem, seval, hq]
 refine callV_eq (shape_block_ok γ _ (by first | exact rdK_app hv0_0 | exact hv0_0) f1) rfl rfl ?_
 simp -implicitDefEqProofs only [go_sem, seval, hq]
 obtain rfl := sI h
 refine X_ret ?_
 simp -implicitDefEqProofs only [go_sem, seval, hq]
 exact Rt.mv0 (BaseR.refl hob) (by simp) (vS)
end Go.Pf
end
section
set_option maxRecDepth 100000
namespace Go.Pf
open Go Go.Ab Go.Pp Go.Proofs Go.Proofs.S04
attribute [local go_sem] Lxτ Lxγ gam0 Int.toNat_natCast tau3 tau4 tau28 tau29 tau31 tau35 tau42 tau44 tau59 eI eB eS e_Ins e_Block e_Func e_Prog e_code_writer e_code_reader e_Edge
set_option maxHeartbeats 1000000 in
theorem shape_Func_ok (γ : GT) (ob : OT) {a0 : Func} {r : Bool} (h : shape_Func a0 = some r) :
  Valid (Lx γ) 11 [V.agg [V.tr (.sl 1 false (List.map (eI .i64) a0.Kinds)), V.tr (.sl 1 false (List.map (eI .i64) a0.Base)), vint .i64 a0.Params, vint .i64 a0.Result, V.tr (.sl 1 false (List.map e_Block a0.Blocks))]] ob (vbool r) ob := by
 refine valid_X (lx_ok γ) (fn := Tryd.f11) (rs := [.tmp 2]) Tryd.func11 (by kernel_rfl) rfl rfl Tryd.ntmps11 rfl (by simp) fun hb hob => ?_
 rw [shape_Func] at h
 refine X_sr (lx_ok γ) ?_
 simp -implicitDefEqProofs only [go_sem, seval]
 refine X_seq ?_
 refine X_block ?_
 refine X_seq ?_
 refine X_jq (J := fun as1 ob1 => ∃ (x2 : Bool), shape_Func.j1 a0 x2 = some r ∧ [(1, V.ref ob.length 0), (3, vbool x2)] = as1 ∧ ob ++ [some (O.box [V.tr (.sl 1 false (List.map (eI .i64) a0.Kinds)), V.tr (.sl 1 false (List.map (eI .i64) a0.Base)), vint .i64 a0.Params, vint .i64 a0.Result, V.tr (.sl 1 false (List.map e_Block a0.Blocks))])] = ob1) ?_ ?_
 ·rintro as1 ob1 ⟨x2, h, rfl, rfl⟩
  rw [shape_Func.j1] at h
  simp -implicitDefEqProofs only [go_sem, seval]
  cases f1 : x2
  ·rw [if_neg (nF f1)] at h
   refine X_cond (lx_ok γ) ?_
   simp -implicitDefEqProofs only [go_sem, seval, f1]
   refine X_seq ?_
   refine X_jq (J := fun as1 ob1 => ∃ (x4 : Bool), shape_Func.j2 a0 x4 = some r ∧ [(1, V.ref ob.length 0), (17, vbool x4)] = as1 ∧ ob ++ [some (O.box [V.tr (.sl 1 false (List.map (eI .i64) a0.Kinds)), V.tr (.sl 1 false (List.map (eI .i64) a0.Base)), vint .i64 a0.Params, vint .i64 a0.Result, V.tr (.sl 1 false (List.map e_Block a0.Blocks))])] = ob1) ?_ ?_
   ·rintro as1 ob1 ⟨x4, h, rfl, rfl⟩
    rw [shape_Func.j2] at h
    simp -implicitDefEqProofs only [go_sem, seval, f1]
    cases f2 : x4
    ·rw [if_neg (nF f2)] at h
     refine X_cond (lx_ok γ) ?_
     simp -implicitDefEqProofs only [go_sem, seval, f1, f2]
     refine X_skip ?_
     try simp -implicitDefEqProofs only [go_sem]
     refine X_sr (lx_ok γ) ?_
     obtain ⟨x5, f3, h⟩ := bindE h
     simp -implicitDefEqProofs only [go_sem, seval, f1, f2]
     refine callV_eq (shape_within_ok γ _  f3) rfl rfl ?_
     cases f4 : x5
     ·rw [if_neg (nF f4)] at h
      simp -implicitDefEqProofs only [go_sem, seval, f1, f2, f4]
      obtain rfl := sI h
      refine X_ret ?_
      simp -implicitDefEqProofs only [go_sem, seval, f1, f2, f4]
      exact Rt.mv0 (BaseR.refl hob) (by simp) (vS)
     ·rw [if_pos f4] at h
      obtain ⟨x6, f5, h⟩ := bindE h
      simp -implicitDefEqProofs only [go_sem, seval, f1, f2, f4]
      refine callV_eq (slices_ContainsFunc_Block_ok γ _ (by simp -implicitDefEqProofs only [go_sem, seval, f1, f2, f4]; try rfl) (fun ob1 hp y0 r hx => by obtain ⟨l, rfl⟩ := hp; exact shape_Func_1_ok γ _ (by simp -implicitDefEqProofs only [go_sem, seval, f1, f2, f4]; try rfl) hx) f5) rfl rfl ?_
      simp -implicitDefEqProofs only [go_sem, seval, f1, f2, f4]
      obtain rfl := sI h
      refine X_ret ?_
      simp -implicitDefEqProofs only [go_sem, seval, f1, f2, f4]
      exact Rt.mv0 (BaseR.refl hob) (by simp) (vS)
    ·rw [if_pos f2] at h
     refine X_cond (lx_ok γ) ?_
     simp -implicitDefEqProofs only [go_sem, seval, f1, f2]
     refine X_sr (lx_ok γ) ?_
     simp -implicitDefEqProofs only [go_sem, seval, f1, f2]
     obtain rfl := sI h
     refine X_ret ?_
     simp -implicitDefEqProofs only [go_sem, seval, f1, f2]
     exact Rt.mv0 (BaseR.refl hob) (by simp) (vS)
   ·refine X_reg (lx_ok γ) ?_
    obtain ⟨x7, f6, h⟩ := bindE h
    obtain ⟨f7, f8, f9⟩ := headL_some f6
    try simp only [Int.toNat_natCast, Int.reduceToNat] at f8 f9
    obtain ⟨x8, f10, h⟩ := bindE h
    simp -implicitDefEqProofs only [go_sem, seval, f1, f7, f8, f9]
    refine callV_eq (slices_Contains_int_ok γ _ (by simp -implicitDefEqProofs only [go_sem, seval, f1, f7, f8, f9]; try rfl) f10) rfl rfl ?_
    cases f11 : x8
    ·rw [if_neg (nF f11)] at h
     obtain ⟨x9, f12, h⟩ := bindE h
     simp -implicitDefEqProofs only [go_sem, seval, f1, f11, f7, f8, f9]
     refine callV_eq (shape_within_ok γ _  f12) rfl rfl ?_
     simp -implicitDefEqProofs only [go_sem, seval, f1, f11, f7, f8, f9]
     refine kJ_in ?_ ⟨(!x9), h, rfl, rfl⟩
     exact To.mv [(0, 0)] (BaseR.refl hob) (by simp) (by decide) (by simp only [go_sem]; exact ⟨VM.refA (j := 0) (t := 0) rfl, vS⟩) ⟨⟨_, rfl, OM.box _ _ ⟨vS, vS, vS, vS, vS, trivial⟩⟩, trivial⟩
    ·rw [if_pos f11] at h
     simp -implicitDefEqProofs only [go_sem, seval, f1, f11, f7, f8, f9]
     refine kJ_in ?_ ⟨true, h, rfl, rfl⟩
     exact To.mv [(0, 0)] (BaseR.refl hob) (by simp) (by decide) (by simp only [go_sem]; exact ⟨VM.refA (j := 0) (t := 0) rfl, vS⟩) ⟨⟨_, rfl, OM.box _ _ ⟨vS, vS, vS, vS, vS, trivial⟩⟩, trivial⟩
  ·rw [if_pos f1] at h
   refine X_cond (lx_ok γ) ?_
   simp -implicitDefEqProofs only [go_sem, seval, f1]
   refine X_sr (lx_ok γ) ?_
   simp -implicitDefEqProofs only [go_sem, seval, f1]
   obtain rfl := sI h
   refine X_ret ?_
   simp -implicitDefEqProofs only [go_sem, seval, f1]
   exact Rt.mv0 (BaseR.refl hob) (by simp) (vS)
 ·refine X_reg (lx_ok γ) ?_
  obtain ⟨x10, f13, h⟩ := bindE h
  simp -implicitDefEqProofs only [go_sem, seval]
  refine callV_eq (shape_kinds_ok γ _ (by simp -implicitDefEqProofs only [go_sem, seval]; try rfl) (by simp -implicitDefEqProofs only [go_sem, seval]; try rfl) (by simp -implicitDefEqProofs only [go_sem, seval]; try rfl) f13) rfl rfl ?_
  cases f14 : x10
  ·rw [if_neg (nF f14)] at h
   simp -implicitDefEqProofs only [go_sem, seval, f14]
   refine kJ_in ?_ ⟨true, h, rfl, rfl⟩
   exact To.mv [(0, 0)] (BaseR.refl hob) (by simp) (by decide) (by simp only [go_sem]; exact ⟨VM.refA (j := 0) (t := 0) rfl, vS⟩) ⟨⟨_, rfl, OM.box _ _ ⟨vS, vS, vS, vS, vS, trivial⟩⟩, trivial⟩
  ·rw [if_pos f14] at h
   obtain ⟨x11, f15, h⟩ := bindE h
   simp -implicitDefEqProofs only [go_sem, seval, f14]
   refine callV_eq (shape_within_ok γ _  f15) rfl rfl ?_
   simp -implicitDefEqProofs only [go_sem, seval, f14]
   refine kJ_in ?_ ⟨(!x11), h, rfl, rfl⟩
   exact To.mv [(0, 0)] (BaseR.refl hob) (by simp) (by decide) (by simp only [go_sem]; exact ⟨VM.refA (j := 0) (t := 0) rfl, vS⟩) ⟨⟨_, rfl, OM.box _ _ ⟨vS, vS, vS, vS, vS, trivial⟩⟩, trivial⟩
end Go.Pf
end
section
set_option maxRecDepth 100000
namespace Go.Pf
open Go Go.Ab Go.Pp Go.Proofs Go.Proofs.S04
attribute [local go_sem] Lxτ Lxγ gam0 Int.toNat_natCast tau3 tau28 tau35 tau42 tau61 eI eB eS e_Ins e_Block e_Func e_Prog e_code_writer e_code_reader e_Edge
set_option maxHeartbeats 1000000 in
theorem slices_ContainsFunc_Ins_ok (γ : GT) (ob : OT) {a0 : List Ins} {v0 : V} {a1 : Ins → Option (Bool)} {w1 : V} (hv0 : rdK (getO ob) 7 v0 = some (List.map e_Ins a0)) (hf1 : ∀ (ob1 : OT), ob <+: ob1 → ∀ (y0 : Ins) (r : Bool), a1 y0 = some r → FnV (Lx γ) w1 [V.agg [vint .i64 y0.Op, vint .i64 y0.D, vint .i64 y0.A, vint .i64 y0.B, vint .i64 y0.N, vint .i64 y0.M, V.tr (.sl 1 false (List.map (eI .i64) y0.Args))]] ob1 (vbool r) ob1) {r : Bool} (h : slices_ContainsFunc_Ins a0 a1 = some r) :
  Valid (Lx γ) 42 [v0, w1] ob (vbool r) ob := by
 refine valid_X (lx_ok γ) (fn := Tryd.f42) (rs := [.tmp 4]) Tryd.func42 (by kernel_rfl) rfl rfl Tryd.ntmps42 rfl (by simp) fun hb hob => ?_
 have hq := rd4 hv0
 rw [slices_ContainsFunc_Ins] at h
 refine X_sr (lx_ok γ) ?_
 simp -implicitDefEqProofs only [go_sem, seval, hq]
 refine X_sr (lx_ok γ) ?_
 obtain ⟨x1, f1, h⟩ := bindE h
 simp -implicitDefEqProofs only [go_sem, seval, hq]
 refine callV_eq (slices_IndexFunc_Ins_ok γ _ (by first | exact rdK_app hv0 | exact hv0) hf1 f1) rfl rfl ?_
 simp -implicitDefEqProofs only [go_sem, seval, hq]
 obtain rfl := sI h
 refine X_ret ?_
 simp -implicitDefEqProofs only [go_sem, seval, hq]
 exact Rt.mv1 (BaseR.refl hob) (by simp) (vS)
end Go.Pf
end
section
set_option maxRecDepth 100000
namespace Go.Pf
open Go Go.Ab Go.Pp Go.Proofs Go.Proofs.S04
attribute [local go_sem] Lxτ Lxγ gam0 Int.toNat_natCast tau3 tau9 tau90 eI eB eS e_Ins e_Block e_Func e_Prog e_code_writer e_code_reader e_Edge
set_option maxHeartbeats 1000000 in
theorem code_Parts_ok (γ : GT) (ob : OT) {a0 : Int} {r : ByteArray} (h : code_Parts a0 = some r) :
  Valid (Lx γ) 46 [vint .i64 a0] ob (vstr r) ob := by
 refine valid_X (lx_ok γ) (fn := Tryd.f46) (rs := [.tmp 2]) Tryd.func46 (by kernel_rfl) rfl rfl Tryd.ntmps46 rfl (by simp) fun hb hob => ?_
 rw [code_Parts] at h
 refine X_sr (lx_ok γ) ?_
 simp -implicitDefEqProofs only [go_sem, seval]
 refine X_seq ?_
 refine X_sr (lx_ok γ) ?_
 cases f1 : decide (a0 < 0)
 ·rw [if_neg (nF f1)] at h
  simp -implicitDefEqProofs only [go_sem, seval, f1]
  cases f2 : decide (24 ≤ a0)
  ·rw [if_neg (nF f2)] at h
   refine X_cond (lx_ok γ) ?_
   simp -implicitDefEqProofs only [go_sem, seval, f1, f2]
   refine X_skip ?_
   try simp -implicitDefEqProofs only [go_sem]
   refine X_sr (lx_ok γ) ?_
   obtain ⟨x1, f3, h⟩ := bindE h
   obtain ⟨f4, f5, f6⟩ := ixL_some f3
   replace f5 : a0 < 24 := f5
   have f7 : Int.toNat a0 + 1 ≤ List.length partsL := by have : List.length partsL = 24 := rfl; omega
   have f8 : List.take 1 (List.drop (Int.toNat a0) partsL) = [x1] := take1_of f6
   simp -implicitDefEqProofs only [go_sem, seval, f1, f2, f4, f5, f7, f8]
   obtain rfl := sI h
   refine X_ret ?_
   simp -implicitDefEqProofs only [go_sem, seval, f1, f2, f4, f5, f7, f8]
   exact Rt.mv1 (BaseR.refl hob) (by simp) (vS)
  ·rw [if_pos f2] at h
   refine X_cond (lx_ok γ) ?_
   simp -implicitDefEqProofs only [go_sem, seval, f1, f2]
   refine X_sr (lx_ok γ) ?_
   simp -implicitDefEqProofs only [go_sem, seval, f1, f2]
   obtain rfl := sI h
   refine X_ret ?_
   simp -implicitDefEqProofs only [go_sem, seval, f1, f2]
   exact Rt.mv1 (BaseR.refl hob) (by simp) (vS)
 ·rw [if_pos f1] at h
  simp -implicitDefEqProofs only [go_sem, seval, f1]
  refine X_condT (lx_ok γ) rfl ?_
  refine X_sr (lx_ok γ) ?_
  simp -implicitDefEqProofs only [go_sem, seval, f1]
  obtain rfl := sI h
  refine X_ret ?_
  simp -implicitDefEqProofs only [go_sem, seval, f1]
  exact Rt.mv1 (BaseR.refl hob) (by simp) (vS)
end Go.Pf
end
section
set_option maxRecDepth 100000
namespace Go.Pf
open Go Go.Ab Go.Pp Go.Proofs Go.Proofs.S04
attribute [local go_sem] Lxτ Lxγ gam0 Int.toNat_natCast  eI eB eS e_Ins e_Block e_Func e_Prog e_code_writer e_code_reader e_Edge
set_option maxHeartbeats 1000000 in
theorem stringslite_IndexByte_calls (s : ByteArray) (c : Int) (w : World) :
  Calls Tryd.prog 91 #[.string s, .int .u8 c] w fun e w' => e = .returned (.int .i64 (Lib.indexByte s.data.toList c.toNat.toUInt8)) ∧ w' = w := by
 go_enter Tryd.func91, Tryd.ntmps91
 go_wp2
 rw [run_callFunc_extern Tryd.func111 (by kernel_rfl) (by kernel_rfl) (by kernel_rfl) (e := Extern.BytealgIndexByte.indexByte) (by kernel_rfl), Lib.run_indexByteString]
 simp only [Result.andThen]
 rw [Oper.upon_value]
 go_wp2
 go_ret
 exact ⟨rfl, rfl⟩
theorem stringslite_IndexByte_ok (γ : GT) (ob : OT) {a0 : ByteArray} {a1 : Int} {r : Int} (h : stringslite_IndexByte a0 a1 = some r) :
  Valid (Lx γ) 91 [vstr a0, vint .u8 a1] ob (vint .i64 r) ob := by
 rw [stringslite_IndexByte] at h
 obtain rfl := sI h
 refine Valid.quiet2 ⟨⟨Tryd.f91, Tryd.func91, by kernel_rfl, rfl⟩⟩ (fun M G => .tr (.lit _ rfl)) (fun w => ?_)
 refine (stringslite_IndexByte_calls a0 a1 w).mono ?_
 rintro e w' ⟨rfl, rfl⟩
 exact ⟨by rw [ixBL_is]; rfl, rfl⟩
end Go.Pf
end
section
set_option maxRecDepth 100000
namespace Go.Pf
open Go Go.Ab Go.Pp Go.Proofs Go.Proofs.S04
attribute [local go_sem] Lxτ Lxγ gam0 Int.toNat_natCast tau5 tau9 eI eB eS e_Ins e_Block e_Func e_Prog e_code_writer e_code_reader e_Edge
set_option maxHeartbeats 1000000 in
theorem strings_IndexByte_ok (γ : GT) (ob : OT) {a0 : ByteArray} {a1 : Int} {r : Int} (h : strings_IndexByte a0 a1 = some r) :
  Valid (Lx γ) 78 [vstr a0, vint .u8 a1] ob (vint .i64 r) ob := by
 refine valid_X (lx_ok γ) (fn := Tryd.f78) (rs := [.tmp 4]) Tryd.func78 (by kernel_rfl) rfl rfl Tryd.ntmps78 rfl (by simp) fun hb hob => ?_
 rw [strings_IndexByte] at h
 refine X_sr (lx_ok γ) ?_
 simp -implicitDefEqProofs only [go_sem, seval]
 refine X_sr (lx_ok γ) ?_
 obtain ⟨x1, f1, h⟩ := bindE h
 simp -implicitDefEqProofs only [go_sem, seval]
 refine callV_eq (stringslite_IndexByte_ok γ _  f1) rfl rfl ?_
 simp -implicitDefEqProofs only [go_sem, seval]
 obtain rfl := sI h
 refine X_ret ?_
 simp -implicitDefEqProofs only [go_sem, seval]
 exact Rt.mv1 (BaseR.refl hob) (by simp) (vS)
end Go.Pf
end
section
set_option maxRecDepth 100000
namespace Go.Pf
open Go Go.Ab Go.Pp Go.Proofs Go.Proofs.S04
attribute [local go_sem] Lxτ Lxγ gam0 Int.toNat_natCast tau3 tau5 tau9 eI eB eS e_Ins e_Block e_Func e_Prog e_code_writer e_code_reader e_Edge
set_option maxHeartbeats 1000000 in
theorem code_letters_ok (γ : GT) (ob : OT) {a0 : Int} {a1 : Int} {r : Bool} (h : code_letters a0 a1 = some r) :
  Valid (Lx γ) 74 [vint .i64 a0, vint .u8 a1] ob (vbool r) ob := by
 refine valid_X (lx_ok γ) (fn := Tryd.f74) (rs := [.tmp 4]) Tryd.func74 (by kernel_rfl) rfl rfl Tryd.ntmps74 rfl (by simp) fun hb hob => ?_
 rw [code_letters] at h
 refine X_sr (lx_ok γ) ?_
 simp -implicitDefEqProofs only [go_sem, seval]
 refine X_sr (lx_ok γ) ?_
 obtain ⟨x1, f1, h⟩ := bindE h
 simp -implicitDefEqProofs only [go_sem, seval]
 refine callV_eq (code_Parts_ok γ _  f1) rfl rfl ?_
 obtain ⟨x2, f2, h⟩ := bindE h
 simp -implicitDefEqProofs only [go_sem, seval]
 refine callV_eq (strings_IndexByte_ok γ _  f2) rfl rfl ?_
 simp -implicitDefEqProofs only [go_sem, seval]
 obtain rfl := sI h
 refine X_ret ?_
 simp -implicitDefEqProofs only [go_sem, seval]
 exact Rt.mv1 (BaseR.refl hob) (by simp) (vS)
end Go.Pf
end
section
set_option maxRecDepth 100000
namespace Go.Pf
open Go Go.Ab Go.Pp Go.Proofs Go.Proofs.S04
attribute [local go_sem] Lxτ Lxγ gam0 Int.toNat_natCast tau3 tau5 eI eB eS e_Ins e_Block e_Func e_Prog e_code_writer e_code_reader e_Edge
set_option maxHeartbeats 1000000 in
theorem code_Sets_ok (γ : GT) (ob : OT) {a0 : Int} {r : Bool} (h : code_Sets a0 = some r) :
  Valid (Lx γ) 44 [vint .i64 a0] ob (vbool r) ob := by
 refine valid_X (lx_ok γ) (fn := Tryd.f44) (rs := [.tmp 2]) Tryd.func44 (by kernel_rfl) rfl rfl Tryd.ntmps44 rfl (by simp) fun hb hob => ?_
 rw [code_Sets] at h
 refine X_sr (lx_ok γ) ?_
 simp -implicitDefEqProofs only [go_sem, seval]
 refine X_sr (lx_ok γ) ?_
 obtain ⟨x1, f1, h⟩ := bindE h
 simp -implicitDefEqProofs only [go_sem, seval]
 refine callV_eq (code_letters_ok γ _  f1) rfl rfl ?_
 simp -implicitDefEqProofs only [go_sem, seval]
 obtain rfl := sI h
 refine X_ret ?_
 simp -implicitDefEqProofs only [go_sem, seval]
 exact Rt.mv1 (BaseR.refl hob) (by simp) (vS)
end Go.Pf
end
section
set_option maxRecDepth 100000
namespace Go.Pf
open Go Go.Ab Go.Pp Go.Proofs Go.Proofs.S04
attribute [local go_sem] Lxτ Lxγ gam0 Int.toNat_natCast tau3 tau4 tau28 tau35 eI eB eS e_Ins e_Block e_Func e_Prog e_code_writer e_code_reader e_Edge
set_option maxHeartbeats 1000000 in
theorem shape_Sets_ok (γ : GT) (ob : OT) {a0 : Ins} {v0_6 : V} (hv0_6 : rdK (getO ob) 1 v0_6 = some (List.map (eI .i64) a0.Args)) {r : Int × Bool} (h : shape_Sets a0 = some r) :
  Valid (Lx γ) 15 [V.agg [vint .i64 a0.Op, vint .i64 a0.D, vint .i64 a0.A, vint .i64 a0.B, vint .i64 a0.N, vint .i64 a0.M, v0_6]] ob (V.tup [vint .i64 r.1, vbool r.2]) ob := by
 refine valid_X (lx_ok γ) (fn := Tryd.f15) (rs := [.tmp 2, .tmp 3]) Tryd.func15 (by kernel_rfl) rfl rfl Tryd.ntmps15 rfl (by simp) fun hb hob => ?_
 have hq := rd4 hv0_6
 rw [shape_Sets] at h
 refine X_sr (lx_ok γ) ?_
 simp -implicitDefEqProofs only [go_sem, seval, hq]
 refine X_seq ?_
 refine X_sr (lx_ok γ) ?_
 obtain ⟨x1, f1, h⟩ := bindE h
 simp -implicitDefEqProofs only [go_sem, seval, hq]
 refine callV_eq (code_Sets_ok γ _  f1) rfl rfl ?_
 simp -implicitDefEqProofs only [go_sem, seval, hq]
 cases f2 : x1
 ·rw [if_neg (nF f2)] at h
  refine X_cond (lx_ok γ) ?_
  simp -implicitDefEqProofs only [go_sem, seval, f2, hq]
  refine X_sr (lx_ok γ) ?_
  simp -implicitDefEqProofs only [go_sem, seval, f2, hq]
  obtain rfl := sI h
  refine X_ret ?_
  simp -implicitDefEqProofs only [go_sem, seval, f2, hq]
  exact Rt.mv0 (BaseR.refl hob) (by simp) (VM.tup ⟨vS, vS, trivial⟩)
 ·rw [if_pos f2] at h
  refine X_cond (lx_ok γ) ?_
  simp -implicitDefEqProofs only [go_sem, seval, f2, hq]
  refine X_skip ?_
  try simp -implicitDefEqProofs only [go_sem]
  refine X_sr (lx_ok γ) ?_
  simp -implicitDefEqProofs only [go_sem, seval, f2, hq]
  obtain rfl := sI h
  refine X_ret ?_
  simp -implicitDefEqProofs only [go_sem, seval, f2, hq]
  exact Rt.mv0 (BaseR.refl hob) (by simp) (VM.tup ⟨vS, vS, trivial⟩)
end Go.Pf
end
section
set_option maxRecDepth 100000
namespace Go.Pf
open Go Go.Ab Go.Pp Go.Proofs Go.Proofs.S04
attribute [local go_sem] Lxτ Lxγ gam0 Int.toNat_natCast tau3 tau5 tau9 eI eB eS e_Ins e_Block e_Func e_Prog e_code_writer e_code_reader e_Edge
set_option maxHeartbeats 1000000 in
theorem shape_has_ok (γ : GT) (ob : OT) {a0 : Int} {a1 : Int} {r : Bool} (h : shape_has a0 a1 = some r) :
  Valid (Lx γ) 54 [vint .i64 a0, vint .u8 a1] ob (vbool r) ob := by
 refine valid_X (lx_ok γ) (fn := Tryd.f54) (rs := [.tmp 4]) Tryd.func54 (by kernel_rfl) rfl rfl Tryd.ntmps54 rfl (by simp) fun hb hob => ?_
 rw [shape_has] at h
 refine X_sr (lx_ok γ) ?_
 simp -implicitDefEqProofs only [go_sem, seval]
 refine X_sr (lx_ok γ) ?_
 obtain ⟨x1, f1, h⟩ := bindE h
 simp -implicitDefEqProofs only [go_sem, seval]
 refine callV_eq (code_Parts_ok γ _  f1) rfl rfl ?_
 obtain ⟨x2, f2, h⟩ := bindE h
 simp -implicitDefEqProofs only [go_sem, seval]
 refine callV_eq (strings_IndexByte_ok γ _  f2) rfl rfl ?_
 simp -implicitDefEqProofs only [go_sem, seval]
 obtain rfl := sI h
 refine X_ret ?_
 simp -implicitDefEqProofs only [go_sem, seval]
 exact Rt.mv1 (BaseR.refl hob) (by simp) (vS)
end Go.Pf
end
section
set_option maxRecDepth 100000
namespace Go.Pf
open Go Go.Ab Go.Pp Go.Proofs Go.Proofs.S04
attribute [local go_sem] Lxτ Lxγ gam0 Int.toNat_natCast tau3 tau5 tau28 tau35 eI eB eS e_Ins e_Block e_Func e_Prog e_code_writer e_code_reader e_Edge
set_option maxHeartbeats 1000000 in
theorem shape_Uses_ok (γ : GT) (ob : OT) {a0 : Ins} {v0_6 : V} (hv0_6 : rdK (getO ob) 1 v0_6 = some (List.map (eI .i64) a0.Args)) {r : List Int} (h : shape_Uses a0 = some r) :
  Valid (Lx γ) 22 [V.agg [vint .i64 a0.Op, vint .i64 a0.D, vint .i64 a0.A, vint .i64 a0.B, vint .i64 a0.N, vint .i64 a0.M, v0_6]] ob (V.row ob.length 0 0 (List.length r)) (ob ++ [some (O.row 1 0 (List.map (eI .i64) r))]) := by
 refine valid_X (lx_ok γ) (fn := Tryd.f22) (rs := [.tmp 2]) Tryd.func22 (by kernel_rfl) rfl rfl Tryd.ntmps22 rfl (by simp) fun hb hob => ?_
 have hq := rd4 hv0_6
 rw [shape_Uses] at h
 refine X_sr (lx_ok γ) ?_
 simp -implicitDefEqProofs only [go_sem, seval, hq]
 refine X_sr (lx_ok γ) ?_
 simp -implicitDefEqProofs only [go_sem, seval, hq]
 refine X_seq ?_
 refine X_jq (J := fun as1 ob1 => ∃ (x1 : List Int), shape_Uses.j1 a0 x1 = some r ∧ [(1, V.ref ob.length 0), (3, V.row (ob.length + 1) 0 0 (List.length x1))] = as1 ∧ ob ++ [some (O.box [vint .i64 a0.Op, vint .i64 a0.D, vint .i64 a0.A, vint .i64 a0.B, vint .i64 a0.N, vint .i64 a0.M, v0_6]), some (O.row 1 0 (List.map (eI .i64) x1))] = ob1) ?_ ?_
 ·rintro as1 ob1 ⟨x1, h, rfl, rfl⟩
  rw [shape_Uses.j1] at h
  simp -implicitDefEqProofs only [go_sem, seval, hq]
  refine X_seq ?_
  refine X_jq (J := fun as1 ob1 => ∃ (x2 : List Int), shape_Uses.j2 a0 x2 = some r ∧ [(1, V.ref ob.length 0), (3, V.row (ob.length + 1) 0 0 (List.length x2))] = as1 ∧ ob ++ [some (O.box [vint .i64 a0.Op, vint .i64 a0.D, vint .i64 a0.A, vint .i64 a0.B, vint .i64 a0.N, vint .i64 a0.M, v0_6]), some (O.row 1 0 (List.map (eI .i64) x2))] = ob1) ?_ ?_
  ·rintro as1 ob1 ⟨x2, h, rfl, rfl⟩
   rw [shape_Uses.j2] at h
   simp -implicitDefEqProofs only [go_sem, seval, hq]
   refine X_seq ?_
   refine X_sr (lx_ok γ) ?_
   obtain ⟨x3, f1, h⟩ := bindE h
   simp -implicitDefEqProofs only [go_sem, seval, hq]
   refine callV_eq (shape_has_ok γ _  f1) rfl rfl ?_
   simp -implicitDefEqProofs only [go_sem, seval, hq]
   cases f2 : x3
   ·rw [if_neg (nF f2)] at h
    refine X_cond (lx_ok γ) ?_
    simp -implicitDefEqProofs only [go_sem, seval, f2, hq]
    refine X_skip ?_
    try simp -implicitDefEqProofs only [go_sem]
    refine X_sr (lx_ok γ) ?_
    simp -implicitDefEqProofs only [go_sem, seval, f2, hq]
    obtain rfl := sI h
    refine X_ret ?_
    simp -implicitDefEqProofs only [go_sem, seval, f2, hq]
    exact Rt.mv [(1, 0)] (BaseR.refl hob) (by simp) (by decide) (VM.rowL (j := 1) (t := 0) rfl (by first | rfl | simp | simp_all | omega)) ⟨⟨_, rfl, OM.row' (by first | rfl | simp_all)⟩, trivial⟩
   ·rw [if_pos f2] at h
    refine X_cond (lx_ok γ) ?_
    simp -implicitDefEqProofs only [go_sem, seval, f2, hq]
    refine X_reg (lx_ok γ) ?_
    obtain ⟨x4, f3, h⟩ := bindE h
    have f4 : List.length x4 * 8 ≤ 140737488355328 := by have := (appL_some f3).1; rw [(appL_some f3).2]; simpa using this
    have f5 : List.map (eI .i64) x2 ++ List.map (eI .i64) a0.Args = List.map (eI .i64) x4 := by rw [(appL_some f3).2]; simp [eB, eI, eS]
    have f6 : List.length x2 + List.length a0.Args = List.length x4 := by rw [(appL_some f3).2]; simp
    simp -implicitDefEqProofs only [go_sem, seval, f2, hq, f4, f5, f6]
    refine X_sr (lx_ok γ) ?_
    simp -implicitDefEqProofs only [go_sem, seval, f2, hq]
    obtain rfl := sI h
    refine X_ret ?_
    simp -implicitDefEqProofs only [go_sem, seval, f2, hq]
    exact Rt.mv [(1, 1)] (BaseR.refl hob) (by simp) (by decide) (VM.rowL (j := 1) (t := 0) rfl (by first | rfl | simp | simp_all | omega)) ⟨⟨_, rfl, OM.row' (by first | rfl | simp_all)⟩, trivial⟩
  ·refine X_sr (lx_ok γ) ?_
   obtain ⟨x5, f7, h⟩ := bindE h
   simp -implicitDefEqProofs only [go_sem, seval, hq]
   refine callV_eq (shape_has_ok γ _  f7) rfl rfl ?_
   simp -implicitDefEqProofs only [go_sem, seval, hq]
   cases f8 : x5
   ·rw [if_neg (nF f8)] at h
    refine X_cond (lx_ok γ) ?_
    simp -implicitDefEqProofs only [go_sem, seval, f8, hq]
    refine X_skip ?_
    try simp -implicitDefEqProofs only [go_sem]
    refine kJ_in ?_ ⟨x1, h, rfl, rfl⟩
    exact To.mv [(0, 0), (1, 0)] (BaseR.refl hob) (by simp) (by decide) (by simp only [go_sem]; exact ⟨VM.refA (j := 0) (t := 0) rfl, VM.rowL (j := 1) (t := 1) rfl (by first | rfl | simp | simp_all | omega)⟩) ⟨⟨_, rfl, OM.box _ _ ⟨vS, vS, vS, vS, vS, vS, VM.self (by simpa using Bd.of_rdK hv0_6), trivial⟩⟩, ⟨_, rfl, OM.row' (by first | rfl | simp_all)⟩, trivial⟩
   ·rw [if_pos f8] at h
    refine X_cond (lx_ok γ) ?_
    simp -implicitDefEqProofs only [go_sem, seval, f8, hq]
    refine X_reg (lx_ok γ) ?_
    obtain ⟨x6, f9, h⟩ := bindE h
    have f10 : List.length x6 * 8 ≤ 140737488355328 := by have := (appL_some f9).1; rw [(appL_some f9).2]; simpa using this
    have f11 : List.map (eI .i64) x1 ++ [[.lit (.int .i64 a0.B)]] = List.map (eI .i64) x6 := by rw [(appL_some f9).2]; simp [eB, eI, eS]
    have f12 : List.length x1 + 1 = List.length x6 := by rw [(appL_some f9).2]; simp
    simp -implicitDefEqProofs only [go_sem, seval, f8, hq, f10, f11, f12]
    refine kJ_in ?_ ⟨x6, h, rfl, rfl⟩
    exact To.mv [(0, 0), (1, 1)] (BaseR.refl hob) (by simp) (by decide) (by simp only [go_sem]; exact ⟨VM.refA (j := 0) (t := 0) rfl, VM.rowL (j := 1) (t := 1) rfl (by first | rfl | simp | simp_all | omega)⟩) ⟨⟨_, rfl, OM.box _ _ ⟨vS, vS, vS, vS, vS, vS, VM.self (by simpa using Bd.of_rdK hv0_6), trivial⟩⟩, ⟨_, rfl, OM.row' (by first | rfl | simp_all)⟩, trivial⟩
 ·refine X_sr (lx_ok γ) ?_
  obtain ⟨x7, f13, h⟩ := bindE h
  simp -implicitDefEqProofs only [go_sem, seval, hq]
  refine callV_eq (shape_has_ok γ _  f13) rfl rfl ?_
  simp -implicitDefEqProofs only [go_sem, seval, hq]
  cases f14 : x7
  ·rw [if_neg (nF f14)] at h
   refine X_cond (lx_ok γ) ?_
   simp -implicitDefEqProofs only [go_sem, seval, f14, hq]
   refine X_skip ?_
   try simp -implicitDefEqProofs only [go_sem]
   refine kJ_in ?_ ⟨[], h, rfl, rfl⟩
   exact To.trans (To.gh (as' := [(1, _), (3, V.row (ob.length + 1) 0 0 0)]) (l' := [some (O.box [_, _, _, _, _, _, _])]) 1 ⟨VG.refl _ _ _, VG.nilL, trivial⟩ ⟨Or.inl rfl, trivial⟩) (To.mv [(0, 0), (1, 0)] (BaseR.refl hob) (by simp) (by decide) (by simp only [go_sem]; exact ⟨VM.refA (j := 0) (t := 0) rfl, VM.rowL (j := 1) (t := 1) rfl (by simp)⟩) ⟨⟨_, rfl, OM.box _ _ ⟨vS, vS, vS, vS, vS, vS, VM.self (by simpa using Bd.of_rdK hv0_6), trivial⟩⟩, ⟨_, rfl, OM.row' rfl⟩, trivial⟩)
  ·rw [if_pos f14] at h
   refine X_cond (lx_ok γ) ?_
   simp -implicitDefEqProofs only [go_sem, seval, f14, hq]
   refine X_reg (lx_ok γ) ?_
   simp -implicitDefEqProofs only [go_sem, seval, f14, hq]
   refine kJ_in ?_ ⟨[a0.A], h, rfl, rfl⟩
   exact To.mv [(0, 0), (2, 0)] (BaseR.refl hob) (by simp) (by decide) (by simp only [go_sem]; exact ⟨VM.refA (j := 0) (t := 0) rfl, VM.rowL (j := 2) (t := 1) rfl (by first | rfl | simp | simp_all | omega)⟩) ⟨⟨_, rfl, OM.box _ _ ⟨vS, vS, vS, vS, vS, vS, VM.self (by simpa using Bd.of_rdK hv0_6), trivial⟩⟩, ⟨_, rfl, OM.row' (by first | rfl | simp_all)⟩, trivial⟩
end Go.Pf
end
section
set_option maxRecDepth 100000
namespace Go.Pf
open Go Go.Ab Go.Pp Go.Proofs Go.Proofs.S04
attribute [local go_sem] Lxτ Lxγ gam0 Int.toNat_natCast  eI eB eS e_Ins e_Block e_Func e_Prog e_code_writer e_code_reader e_Edge
theorem slices_Sort_int_ok (γ : GT) (ob : OT) {o ver : Nat} {a0 r : List Int} (hx : getO ob o = some (O.row 1 ver (List.map (eI .i64) a0))) (h : slices_Sort_int a0 = some r) :
  Valid (Lx γ) 55 [V.row o ver 0 (List.length a0)] ob (.tup []) (List.set ob o (some (O.row 1 ver (List.map (eI .i64) r)))) := by
 unfold slices_Sort_int at h
 split at h
 case isFalse => cases h
 rename_i hl
 cases h
 exact Valid.sort (l := a0) ⟨⟨Tryd.f55, Tryd.func55, by kernel_rfl, rfl⟩⟩ hx hl (fun p c w => Tryd.slices_Sort_int_none p c w) (fun b o c zs w h1 h2 h3 => Tryd.slices_Sort_int b o c zs w h1 h2 h3)
theorem slices_Sort_int_len {a0 r : List Int} (h : slices_Sort_int a0 = some r) : List.length a0 = List.length r := by
 unfold slices_Sort_int at h
 split at h
 case isFalse => cases h
 cases h
 simp
end Go.Pf
end
section
set_option maxRecDepth 100000
namespace Go.Pf
open Go Go.Ab Go.Pp Go.Proofs Go.Proofs.S04
attribute [local go_sem] Lxτ Lxγ gam0 Int.toNat_natCast  eI eB eS e_Ins e_Block e_Func e_Prog e_code_writer e_code_reader e_Edge
theorem slices_Compact_int_ok (γ : GT) (ob : OT) {o ver : Nat} {a0 r : List Int} (hx : getO ob o = some (O.row 1 ver (List.map (eI .i64) a0))) (h : slices_Compact_int a0 = some r) :
  Valid (Lx γ) 56 [V.row o ver 0 (List.length a0)] ob (.row o ver 0 (List.length r)) (List.set ob o (some (O.row 1 ver (List.map (eI .i64) r)))) := by
 unfold slices_Compact_int at h
 split at h
 case isFalse => cases h
 rename_i hl
 cases h
 exact Valid.compact (l := a0) ⟨⟨Tryd.f56, Tryd.func56, by kernel_rfl, rfl⟩⟩ hx hl (fun p c w => Tryd.slices_Compact_int_empty p c w) (fun b o c zs w h1 h2 h3 => Tryd.slices_Compact_int b o c zs w h1 h2 h3)
end Go.Pf
end
section
set_option maxRecDepth 100000
namespace Go.Pf
open Go Go.Ab Go.Pp Go.Proofs Go.Proofs.S04
attribute [local go_sem] Lxτ Lxγ gam0 Int.toNat_natCast tau3 tau28 tau35 eI eB eS e_Ins e_Block e_Func e_Prog e_code_writer e_code_reader e_Edge
set_option maxHeartbeats 1000000 in
theorem shape_Next_ok (γ : GT) (ob : OT) {a0 : Ins} {v0_6 : V} (hv0_6 : rdK (getO ob) 1 v0_6 = some (List.map (eI .i64) a0.Args)) {r : List Int} (h : shape_Next a0 = some r) :
  Valid (Lx γ) 24 [V.agg [vint .i64 a0.Op, vint .i64 a0.D, vint .i64 a0.A, vint .i64 a0.B, vint .i64 a0.N, vint .i64 a0.M, v0_6]] ob (V.row ob.length 0 0 (List.length r)) (ob ++ [some (O.row 1 0 (List.map (eI .i64) r))]) := by
 refine valid_X (lx_ok γ) (fn := Tryd.f24) (rs := [.tmp 2]) Tryd.func24 (by kernel_rfl) rfl rfl Tryd.ntmps24 rfl (by simp) fun hb hob => ?_
 have hq := rd4 hv0_6
 rw [shape_Next] at h
 refine X_sr (lx_ok γ) ?_
 simp -implicitDefEqProofs only [go_sem, seval, hq]
 refine X_sr (lx_ok γ) ?_
 simp -implicitDefEqProofs only [go_sem, seval, hq]
 refine X_seq ?_
 refine X_jq (J := fun as1 ob1 => ∃ (x1 : List Int), shape_Next.j1 x1 = some r ∧ [(3, V.row ob.length 0 0 (List.length x1))] = as1 ∧ ob ++ [some (O.row 1 0 (List.map (eI .i64) x1))] = ob1) ?_ ?_
 ·rintro as1 ob1 ⟨x1, h, rfl, rfl⟩
  rw [shape_Next.j1] at h
  simp -implicitDefEqProofs only [go_sem, seval, hq]
  refine X_sr (lx_ok γ) ?_
  obtain ⟨x2, f1, h⟩ := bindE h
  have f2 : List.length x1 = List.length x2 := slices_Sort_int_len f1
  simp -implicitDefEqProofs only [go_sem, seval, hq]
  refine callV_eq (slices_Sort_int_ok γ _ (by simp -implicitDefEqProofs only [go_sem, seval, hq]; try rfl) f1) rfl rfl ?_
  simp -implicitDefEqProofs only [go_sem, seval, hq, f2]
  refine X_sr (lx_ok γ) ?_
  obtain ⟨x3, f3, h⟩ := bindE h
  simp -implicitDefEqProofs only [go_sem, seval, hq, f2]
  refine callV_eq (slices_Compact_int_ok γ _ (by simp -implicitDefEqProofs only [go_sem, seval, hq, f2]; try rfl) f3) rfl rfl ?_
  simp -implicitDefEqProofs only [go_sem, seval, hq, f2]
  obtain rfl := sI h
  refine X_ret ?_
  simp -implicitDefEqProofs only [go_sem, seval, hq, f2]
  exact Rt.mv [(0, 0)] (BaseR.refl hob) (by simp) (by decide) (VM.rowL (j := 0) (t := 0) rfl (by first | rfl | simp | simp_all | omega)) ⟨⟨_, rfl, OM.row' (by first | rfl | simp_all)⟩, trivial⟩
 ·refine X_sr (lx_ok γ) ?_
  simp -implicitDefEqProofs only [go_sem, seval, hq]
  refine X_block ?_
  refine X_sr (lx_ok γ) ?_
  simp -implicitDefEqProofs only [go_sem, seval, hq]
  cases f4 : (a0.Op == 22)
  ·rw [if_neg (nF f4)] at h
   refine X_cond (lx_ok γ) ?_
   simp -implicitDefEqProofs only [go_sem, seval, f4, hq]
   refine X_sr (lx_ok γ) ?_
   simp -implicitDefEqProofs only [go_sem, seval, f4, hq]
   cases f5 : (a0.Op == 21)
   ·rw [if_neg (nF f5)] at h
    refine X_cond (lx_ok γ) ?_
    simp -implicitDefEqProofs only [go_sem, seval, f4, f5, hq]
    refine X_skip ?_
    try simp -implicitDefEqProofs only [go_sem]
    refine kJ_in ?_ ⟨[], h, rfl, rfl⟩
    exact To.trans (To.gh (as' := [(3, V.row (ob.length + 1) 0 0 0)]) (l' := [some (O.box [_, _, _, _, _, _, _])]) 1 ⟨VG.nilL, trivial⟩ ⟨Or.inl rfl, trivial⟩) (To.mv [(1, 0)] (BaseR.refl hob) (by simp) (by decide) (by simp only [go_sem]; exact VM.rowL (j := 1) (t := 0) rfl (by simp)) ⟨⟨_, rfl, OM.row' rfl⟩, trivial⟩)
   ·rw [if_pos f5] at h
    refine X_cond (lx_ok γ) ?_
    simp -implicitDefEqProofs only [go_sem, seval, f4, f5, hq]
    refine X_reg (lx_ok γ) ?_
    simp -implicitDefEqProofs only [go_sem, seval, f4, f5, hq]
    refine kJ_in ?_ ⟨[a0.N], h, rfl, rfl⟩
    exact To.mv [(1, 0)] (BaseR.refl hob) (by simp) (by decide) (by simp only [go_sem]; exact VM.rowL (j := 1) (t := 0) rfl (by first | rfl | simp | simp_all | omega)) ⟨⟨_, rfl, OM.row' (by first | rfl | simp_all)⟩, trivial⟩
  ·rw [if_pos f4] at h
   refine X_cond (lx_ok γ) ?_
   simp -implicitDefEqProofs only [go_sem, seval, f4, hq]
   refine X_reg (lx_ok γ) ?_
   simp -implicitDefEqProofs only [go_sem, seval, f4, hq]
   refine kJ_in ?_ ⟨[a0.N, a0.M], h, rfl, rfl⟩
   exact To.mv [(1, 0)] (BaseR.refl hob) (by simp) (by decide) (by simp only [go_sem]; exact VM.rowL (j := 1) (t := 0) rfl (by first | rfl | simp | simp_all | omega)) ⟨⟨_, rfl, OM.row' (by first | rfl | simp_all)⟩, trivial⟩
end Go.Pf
end
section
set_option maxRecDepth 100000
namespace Go.Pf
open Go Go.Ab Go.Pp Go.Proofs Go.Proofs.S04
attribute [local go_sem] Lxτ Lxγ gam0 Int.toNat_natCast tau9 tau21 eI eB eS e_Ins e_Block e_Func e_Prog e_code_writer e_code_reader e_Edge
set_option maxHeartbeats 1000000 in
theorem shape_hasAny_ok (γ : GT) (ob : OT) {a0 : ByteArray} {a1 : ByteArray} {r : Bool} (h : shape_hasAny a0 a1 = some r) :
  Valid (Lx γ) 76 [vstr a0, vstr a1] ob (vbool r) ob := by
 refine valid_X (lx_ok γ) (fn := Tryd.f76) (rs := [.tmp 4]) Tryd.func76 (by kernel_rfl) rfl rfl Tryd.ntmps76 rfl (by simp) fun hb hob => ?_
 rw [shape_hasAny] at h
 refine X_sr (lx_ok γ) ?_
 simp -implicitDefEqProofs only [go_sem, seval]
 refine X_seq ?_
 refine X_sr (lx_ok γ) ?_
 simp -implicitDefEqProofs only [go_sem, seval]
 refine X_jq (J := fun as1 ob1 => shape_hasAny.k1 = some r ∧ [] = as1 ∧ ob = ob1) ?_ ?_
 ·rintro as1 ob1 ⟨h, rfl, rfl⟩
  rw [shape_hasAny.k1] at h
  simp -implicitDefEqProofs only [go_sem, seval]
  refine X_sr (lx_ok γ) ?_
  simp -implicitDefEqProofs only [go_sem, seval]
  obtain rfl := sI h
  refine X_ret ?_
  simp -implicitDefEqProofs only [go_sem, seval]
  exact Rt.mv1 (BaseR.refl hob) (by simp) (vS)
 ·refine X_block ?_
  obtain ⟨lr1, hl1, hk1, hr1⟩ := aft2 h
  refine X_while hl1 (fun (s : Nat) as1 ob1 => [(1, vstr a1), (10, V.ref ob.length 0)] = as1 ∧ ob ++ [some (O.iter a0 s)] = ob1) ⟨_, _, ?_, rfl, rfl⟩ ?_
  ·exact To.mv [(0, 0)] (BaseR.refl hob) (by simp) (by decide) (by simp only [go_sem]; exact ⟨vS, VM.refA (j := 0) (t := 0) rfl⟩) ⟨⟨_, rfl, OM.iter _ _⟩, trivial⟩
  ·rintro x1 o1 h ho1 as1 ob1 ⟨rfl, rfl⟩
   rw [shape_hasAny.b1] at h
   refine X_sr (lx_ok γ) ?_
   simp -implicitDefEqProofs only [go_sem, seval]
   refine X_seq ?_
   cases f1 : decide (x1 < a0.size)
   ·rw [if_neg (nF f1)] at h
    refine X_cond (lx_ok γ) ?_
    simp -implicitDefEqProofs only [go_sem, seval, f1]
    obtain rfl := sI h
    have h := hk1 _ (.inr (ho1 (fun _ hs => nomatch hs)))
    refine X_exit ?_
    try simp -implicitDefEqProofs only [go_sem, ↓reduceIte, Nat.reduceEqDiff, reduceCtorEq]
    refine kJ_in ?_ ⟨h, rfl, rfl⟩
    exact To.mv0 (BaseR.refl hob) (by simp) trivial
   ·rw [if_pos f1] at h
    refine X_cond (lx_ok γ) ?_
    simp -implicitDefEqProofs only [go_sem, seval, f1]
    refine X_skip ?_
    try simp -implicitDefEqProofs only [go_sem]
    refine X_block ?_
    refine X_sr (lx_ok γ) ?_
    simp -implicitDefEqProofs only [go_sem, seval, f1]
    refine X_sr (lx_ok γ) ?_
    simp -implicitDefEqProofs only [go_sem, seval, f1]
    refine X_jq (J := fun as1 ob1 => shape_hasAny.k2 a0 x1 = some o1 ∧ [(1, vstr a1), (10, V.ref ob.length 0)] = as1 ∧ ob ++ [some (O.iter a0 (nxP a0 x1))] = ob1) ?_ ?_
    ·rintro as1 ob1 ⟨h, rfl, rfl⟩
     rw [shape_hasAny.k2] at h
     obtain rfl := sI h
     simp -implicitDefEqProofs only [go_sem, seval, f1]
     refine kR_in rfl ?_ ⟨rfl, rfl⟩
     exact To.mv [(0, 0)] (BaseR.refl hob) (by simp) (by decide) (by simp only [go_sem]; exact ⟨vS, VM.refA (j := 0) (t := 0) rfl⟩) ⟨⟨_, rfl, OM.iter _ _⟩, trivial⟩
    ·refine X_block ?_
     obtain ⟨lr2, hl2, hk2, hr2⟩ := aft2 h
     refine X_while hl2 (fun (s : Nat) as1 ob1 => [(1, vstr a1), (6, vint .i32 (decI a0 x1)), (10, V.ref ob.length 0), (15, V.ref (ob.length + 1) 0)] = as1 ∧ ob ++ [some (O.iter a0 (nxP a0 x1)), some (O.iter a1 s)] = ob1) ⟨_, _, ?_, rfl, rfl⟩ ?_
     ·exact To.mv [(0, 0), (1, 0)] (BaseR.refl hob) (by simp) (by decide) (by simp only [go_sem]; exact ⟨vS, vS, VM.refA (j := 0) (t := 0) rfl, VM.refA (j := 1) (t := 1) rfl⟩) ⟨⟨_, rfl, OM.iter _ _⟩, ⟨_, rfl, OM.iter _ _⟩, trivial⟩
     ·rintro x2 o2 h ho2 as1 ob1 ⟨rfl, rfl⟩
      rw [shape_hasAny.b2] at h
      refine X_sr (lx_ok γ) ?_
      simp -implicitDefEqProofs only [go_sem, seval, f1]
      refine X_seq ?_
      cases f2 : decide (x2 < a1.size)
      ·rw [if_neg (nF f2)] at h
       refine X_cond (lx_ok γ) ?_
       simp -implicitDefEqProofs only [go_sem, seval, f1, f2]
       obtain rfl := sI h
       have h := hk2 _ (.inr (ho2 (fun _ hs => nomatch hs)))
       refine X_exit ?_
       try simp -implicitDefEqProofs only [go_sem, ↓reduceIte, Nat.reduceEqDiff, reduceCtorEq]
       refine kJ_in ?_ ⟨h, rfl, rfl⟩
       exact To.mv [(0, 0)] (BaseR.refl hob) (by simp) (by decide) (by simp only [go_sem]; exact ⟨vS, VM.refA (j := 0) (t := 0) rfl⟩) ⟨⟨_, rfl, OM.iter _ _⟩, trivial⟩
      ·rw [if_pos f2] at h
       refine X_cond (lx_ok γ) ?_
       simp -implicitDefEqProofs only [go_sem, seval, f1, f2]
       refine X_skip ?_
       try simp -implicitDefEqProofs only [go_sem]
       refine X_block ?_
       refine X_sr (lx_ok γ) ?_
       simp -implicitDefEqProofs only [go_sem, seval, f1, f2]
       refine X_sr (lx_ok γ) ?_
       simp -implicitDefEqProofs only [go_sem, seval, f1, f2]
       cases f3 : ((decI a0 x1) == (decI a1 x2))
       ·rw [if_neg (nF f3)] at h
        refine X_cond (lx_ok γ) ?_
        simp -implicitDefEqProofs only [go_sem, seval, f1, f2, f3]
        obtain rfl := sI h
        refine X_skip ?_
        try simp -implicitDefEqProofs only [go_sem]
        refine kR_in rfl ?_ ⟨rfl, rfl⟩
        exact To.mv [(0, 0), (1, 0)] (BaseR.refl hob) (by simp) (by decide) (by simp only [go_sem]; exact ⟨vS, vS, VM.refA (j := 0) (t := 0) rfl, VM.refA (j := 1) (t := 1) rfl⟩) ⟨⟨_, rfl, OM.iter _ _⟩, ⟨_, rfl, OM.iter _ _⟩, trivial⟩
       ·rw [if_pos f3] at h
        refine X_cond (lx_ok γ) ?_
        simp -implicitDefEqProofs only [go_sem, seval, f1, f2, f3]
        refine X_sr (lx_ok γ) ?_
        simp -implicitDefEqProofs only [go_sem, seval, f1, f2, f3]
        obtain rfl := sI h
        have h := hr2 _ (ho2 (fun _ hs => nomatch hs))
        obtain rfl := sI h
        have h := hr1 _ (ho1 (fun _ hs => nomatch hs))
        obtain rfl := sI h
        refine X_ret ?_
        simp -implicitDefEqProofs only [go_sem, seval, f1, f2, f3]
        exact Rt.mv0 (BaseR.refl hob) (by simp) (vS)
end Go.Pf
end
section
set_option maxRecDepth 100000
namespace Go.Pf
open Go Go.Ab Go.Pp Go.Proofs Go.Proofs.S04
attribute [local go_sem] Lxτ Lxγ gam0 Int.toNat_natCast tau3 tau4 tau9 tau28 tau35 eI eB eS e_Ins e_Block e_Func e_Prog e_code_writer e_code_reader e_Edge
set_option maxHeartbeats 1000000 in
theorem shape_bare_1_ok (γ : GT) (ob : OT) {a0 : Int} {a1 : ByteArray} {o2 : Nat} {a2 : Ins} {u2_6 : V} (hx2 : getO ob o2 = some (O.box [vint .i64 a2.Op, vint .i64 a2.D, vint .i64 a2.A, vint .i64 a2.B, vint .i64 a2.N, vint .i64 a2.M, u2_6])) {r : Bool} (h : shape_bare_1 a0 a1 a2 = some r) :
  Valid (Lx γ) 75 [vint .i64 a0, vstr a1, V.ref o2 0] ob (vbool r) ob := by
 refine valid_X (lx_ok γ) (fn := Tryd.f75) (rs := [.tmp 5]) Tryd.func75 (by kernel_rfl) rfl rfl Tryd.ntmps75 rfl (by simp) fun hb hob => ?_
 have hoa2 := getO_lt hx2
 have bu2_6 : Bd ob.length u2_6 := hob _ _ hx2 u2_6 (by simp)
 rw [shape_bare_1] at h
 refine X_sr (lx_ok γ) ?_
 simp -implicitDefEqProofs only [go_sem, seval, hx2, getO_ext hx2]
 refine X_sr (lx_ok γ) ?_
 cases f1 : (a0 != 0)
 ·rw [if_neg (nF f1)] at h
  simp -implicitDefEqProofs only [go_sem, seval, f1, hx2, getO_ext hx2]
  obtain rfl := sI h
  refine X_ret ?_
  simp -implicitDefEqProofs only [go_sem, seval, f1, hx2, getO_ext hx2]
  exact Rt.mv1 (BaseR.refl hob) (by simp) (vS)
 ·rw [if_pos f1] at h
  obtain ⟨x1, f2, h⟩ := bindE h
  simp -implicitDefEqProofs only [go_sem, seval, f1, hx2, getO_ext hx2]
  refine callV_eq (code_Parts_ok γ _  f2) rfl rfl ?_
  obtain ⟨x2, f3, h⟩ := bindE h
  simp -implicitDefEqProofs only [go_sem, seval, f1, hx2, getO_ext hx2]
  refine callV_eq (shape_hasAny_ok γ _  f3) rfl rfl ?_
  simp -implicitDefEqProofs only [go_sem, seval, f1, hx2, getO_ext hx2]
  obtain rfl := sI h
  refine X_ret ?_
  simp -implicitDefEqProofs only [go_sem, seval, f1, hx2, getO_ext hx2]
  exact Rt.mv1 (BaseR.refl hob) (by simp) (vS)
end Go.Pf
end
section
set_option maxRecDepth 100000
namespace Go.Pf
open Go Go.Ab Go.Pp Go.Proofs Go.Proofs.S04
attribute [local go_sem] Lxτ Lxγ gam0 Int.toNat_natCast tau3 tau4 tau9 tau28 tau35 eI eB eS e_Ins e_Block e_Func e_Prog e_code_writer e_code_reader e_Edge
set_option maxHeartbeats 1000000 in
theorem shape_bare_ok (γ : GT) (ob : OT) {a0 : Ins} {v0_6 : V} (hv0_6 : rdK (getO ob) 1 v0_6 = some (List.map (eI .i64) a0.Args)) {r : Bool} (h : shape_bare a0 = some r) :
  Valid (Lx γ) 47 [V.agg [vint .i64 a0.Op, vint .i64 a0.D, vint .i64 a0.A, vint .i64 a0.B, vint .i64 a0.N, vint .i64 a0.M, v0_6]] ob (vbool r) ob := by
 refine valid_X (lx_ok γ) (fn := Tryd.f47) (rs := [.tmp 2]) Tryd.func47 (by kernel_rfl) rfl rfl Tryd.ntmps47 rfl (by simp) fun hb hob => ?_
 have hq := rd4 hv0_6
 rw [shape_bare] at h
 refine X_sr (lx_ok γ) ?_
 simp -implicitDefEqProofs only [go_sem, seval, hq]
 refine X_sr (lx_ok γ) ?_
 simp -implicitDefEqProofs only [go_sem, seval, hq]
 refine X_sr (lx_ok γ) ?_
 obtain ⟨x1, f1, h⟩ := bindE h
 simp -implicitDefEqProofs only [go_sem, seval, hq]
 refine callV_eq (shape_bare_1_ok γ _ (by simp -implicitDefEqProofs only [go_sem, seval, hq]; try rfl) f1) rfl rfl ?_
 cases f2 : x1
 ·rw [if_neg (nF f2)] at h
  obtain ⟨x2, f3, h⟩ := bindE h
  simp -implicitDefEqProofs only [go_sem, seval, f2, hq]
  refine callV_eq (shape_bare_1_ok γ _ (by simp -implicitDefEqProofs only [go_sem, seval, f2, hq]; try rfl) f3) rfl rfl ?_
  cases f4 : x2
  ·rw [if_neg (nF f4)] at h
   obtain ⟨x3, f5, h⟩ := bindE h
   simp -implicitDefEqProofs only [go_sem, seval, f2, f4, hq]
   refine callV_eq (shape_bare_1_ok γ _ (by simp -implicitDefEqProofs only [go_sem, seval, f2, f4, hq]; try rfl) f5) rfl rfl ?_
   cases f6 : x3
   ·rw [if_neg (nF f6)] at h
    obtain ⟨x4, f7, h⟩ := bindE h
    simp -implicitDefEqProofs only [go_sem, seval, f2, f4, f6, hq]
    refine callV_eq (shape_bare_1_ok γ _ (by simp -implicitDefEqProofs only [go_sem, seval, f2, f4, f6, hq]; try rfl) f7) rfl rfl ?_
    cases f8 : x4
    ·rw [if_neg (nF f8)] at h
     obtain ⟨x5, f9, h⟩ := bindE h
     simp -implicitDefEqProofs only [go_sem, seval, f2, f4, f6, f8, hq]
     refine callV_eq (shape_bare_1_ok γ _ (by simp -implicitDefEqProofs only [go_sem, seval, f2, f4, f6, f8, hq]; try rfl) f9) rfl rfl ?_
     cases f10 : x5
     ·rw [if_neg (nF f10)] at h
      obtain ⟨x6, f11, h⟩ := bindE h
      simp -implicitDefEqProofs only [go_sem, seval, f2, f4, f6, f8, f10, hq]
      refine callV_eq (shape_bare_1_ok γ _ (by simp -implicitDefEqProofs only [go_sem, seval, f2, f4, f6, f8, f10, hq]; try rfl) f11) rfl rfl ?_
      simp -implicitDefEqProofs only [go_sem, seval, f2, f4, f6, f8, f10, hq]
      obtain rfl := sI h
      refine X_ret ?_
      simp -implicitDefEqProofs only [go_sem, seval, f2, f4, f6, f8, f10, hq]
      exact Rt.mv0 (BaseR.refl hob) (by simp) (vS)
     ·rw [if_pos f10] at h
      simp -implicitDefEqProofs only [go_sem, seval, f2, f4, f6, f8, f10, hq]
      obtain rfl := sI h
      refine X_ret ?_
      simp -implicitDefEqProofs only [go_sem, seval, f2, f4, f6, f8, f10, hq]
      exact Rt.mv0 (BaseR.refl hob) (by simp) (vS)
    ·rw [if_pos f8] at h
     simp -implicitDefEqProofs only [go_sem, seval, f2, f4, f6, f8, hq]
     obtain rfl := sI h
     refine X_ret ?_
     simp -implicitDefEqProofs only [go_sem, seval, f2, f4, f6, f8, hq]
     exact Rt.mv0 (BaseR.refl hob) (by simp) (vS)
   ·rw [if_pos f6] at h
    simp -implicitDefEqProofs only [go_sem, seval, f2, f4, f6, hq]
    obtain rfl := sI h
    refine X_ret ?_
    simp -implicitDefEqProofs only [go_sem, seval, f2, f4, f6, hq]
    exact Rt.mv0 (BaseR.refl hob) (by simp) (vS)
  ·rw [if_pos f4] at h
   simp -implicitDefEqProofs only [go_sem, seval, f2, f4, hq]
   obtain rfl := sI h
   refine X_ret ?_
   simp -implicitDefEqProofs only [go_sem, seval, f2, f4, hq]
   exact Rt.mv0 (BaseR.refl hob) (by simp) (vS)
 ·rw [if_pos f2] at h
  simp -implicitDefEqProofs only [go_sem, seval, f2, hq]
  obtain rfl := sI h
  refine X_ret ?_
  simp -implicitDefEqProofs only [go_sem, seval, f2, hq]
  exact Rt.mv0 (BaseR.refl hob) (by simp) (vS)
end Go.Pf
end
section
set_option maxRecDepth 100000
namespace Go.Pf
open Go Go.Ab Go.Pp Go.Proofs Go.Proofs.S04
attribute [local go_sem] Lxτ Lxγ gam0 Int.toNat_natCast tau3 tau22 tau24 tau28 tau29 tau31 tau35 tau42 tau44 eI eB eS e_Ins e_Block e_Func e_Prog e_code_writer e_code_reader e_Edge
set_option maxHeartbeats 1000000 in
theorem shape_numbers_ok (γ : GT) (ob : OT) {a0 : Prog} {v0_0 : V} {a1 : Ins} {v1_6 : V} (hv0_0 : rdK (getO ob) 5 v0_0 = some (List.map e_Func a0.Funcs)) (hv1_6 : rdK (getO ob) 1 v1_6 = some (List.map (eI .i64) a1.Args)) {r : Bool} (h : shape_numbers a0 a1 = some r) :
  Valid (Lx γ) 48 [V.agg [v0_0], V.agg [vint .i64 a1.Op, vint .i64 a1.D, vint .i64 a1.A, vint .i64 a1.B, vint .i64 a1.N, vint .i64 a1.M, v1_6]] ob (vbool r) ob := by
 refine valid_X (lx_ok γ) (fn := Tryd.f48) (rs := [.tmp 4]) Tryd.func48 (by kernel_rfl) rfl rfl Tryd.ntmps48 rfl (by simp) fun hb hob => ?_
 have hq := And.intro (rd4 hv0_0) (rd4 hv1_6)
 rw [shape_numbers] at h
 refine X_sr (lx_ok γ) ?_
 simp -implicitDefEqProofs only [go_sem, seval, hq]
 refine X_seq ?_
 refine X_sr (lx_ok γ) ?_
 simp -implicitDefEqProofs only [go_sem, seval, hq]
 refine X_block ?_
 refine X_sr (lx_ok γ) ?_
 simp -implicitDefEqProofs only [go_sem, seval, hq]
 cases f1 : (a1.Op == 19)
 ·rw [if_neg (nF f1)] at h
  refine X_cond (lx_ok γ) ?_
  simp -implicitDefEqProofs only [go_sem, seval, f1, hq]
  refine X_sr (lx_ok γ) ?_
  simp -implicitDefEqProofs only [go_sem, seval, f1, hq]
  cases f2 : (a1.Op == 1)
  ·rw [if_neg (nF f2)] at h
   refine X_cond (lx_ok γ) ?_
   simp -implicitDefEqProofs only [go_sem, seval, f1, f2, hq]
   refine X_sr (lx_ok γ) ?_
   simp -implicitDefEqProofs only [go_sem, seval, f1, f2, hq]
   cases f3 : (a1.Op == 16)
   ·rw [if_neg (nF f3)] at h
    refine X_cond (lx_ok γ) ?_
    simp -implicitDefEqProofs only [go_sem, seval, f1, f2, f3, hq]
    refine X_sr (lx_ok γ) ?_
    simp -implicitDefEqProofs only [go_sem, seval, f1, f2, f3, hq]
    cases f4 : (a1.Op == 10)
    ·rw [if_neg (nF f4)] at h
     refine X_cond (lx_ok γ) ?_
     simp -implicitDefEqProofs only [go_sem, seval, f1, f2, f3, f4, hq]
     refine X_seq ?_
     refine X_jq (J := fun as1 ob1 => ∃ (x5 : Bool), shape_numbers.j1 a1 x5 = some r ∧ [(3, V.ref ob.length 0), (49, vbool x5)] = as1 ∧ ob ++ [some (O.box [vint .i64 a1.Op, vint .i64 a1.D, vint .i64 a1.A, vint .i64 a1.B, vint .i64 a1.N, vint .i64 a1.M, v1_6])] = ob1) ?_ ?_
     ·rintro as1 ob1 ⟨x5, h, rfl, rfl⟩
      rw [shape_numbers.j1] at h
      simp -implicitDefEqProofs only [go_sem, seval, f1, f2, f3, f4, hq]
      cases f5 : x5
      ·rw [if_neg (nF f5)] at h
       refine X_cond (lx_ok γ) ?_
       simp -implicitDefEqProofs only [go_sem, seval, f1, f2, f3, f4, f5, hq]
       refine X_skip ?_
       try simp -implicitDefEqProofs only [go_sem]
       refine X_sr (lx_ok γ) ?_
       simp -implicitDefEqProofs only [go_sem, seval, f1, f2, f3, f4, f5, hq]
       obtain rfl := sI h
       refine X_ret ?_
       simp -implicitDefEqProofs only [go_sem, seval, f1, f2, f3, f4, f5, hq]
       exact Rt.mv0 (BaseR.refl hob) (by simp) (vS)
      ·rw [if_pos f5] at h
       refine X_cond (lx_ok γ) ?_
       simp -implicitDefEqProofs only [go_sem, seval, f1, f2, f3, f4, f5, hq]
       refine X_sr (lx_ok γ) ?_
       obtain ⟨x6, f6, h⟩ := bindE h
       simp -implicitDefEqProofs only [go_sem, seval, f1, f2, f3, f4, f5, hq]
       refine callV_eq (shape_within_ok γ _  f6) rfl rfl ?_
       simp -implicitDefEqProofs only [go_sem, seval, f1, f2, f3, f4, f5, hq]
       obtain rfl := sI h
       refine X_ret ?_
       simp -implicitDefEqProofs only [go_sem, seval, f1, f2, f3, f4, f5, hq]
       exact Rt.mv0 (BaseR.refl hob) (by simp) (vS)
     ·refine X_sr (lx_ok γ) ?_
      simp -implicitDefEqProofs only [go_sem, seval, f1, f2, f3, f4, hq]
      cases f7 : (a1.Op == 11)
      ·rw [if_neg (nF f7)] at h
       refine X_cond (lx_ok γ) ?_
       simp -implicitDefEqProofs only [go_sem, seval, f1, f2, f3, f4, f7, hq]
       refine X_sr (lx_ok γ) ?_
       simp -implicitDefEqProofs only [go_sem, seval, f1, f2, f3, f4, f7, hq]
       cases f8 : (a1.Op == 12)
       ·rw [if_neg (nF f8)] at h
        refine X_cond (lx_ok γ) ?_
        simp -implicitDefEqProofs only [go_sem, seval, f1, f2, f3, f4, f7, f8, hq]
        refine X_sr (lx_ok γ) ?_
        simp -implicitDefEqProofs only [go_sem, seval, f1, f2, f3, f4, f7, f8, hq]
        cases f9 : (a1.Op == 13)
        ·rw [if_neg (nF f9)] at h
         refine X_cond (lx_ok γ) ?_
         simp -implicitDefEqProofs only [go_sem, seval, f1, f2, f3, f4, f7, f8, f9, hq]
         refine X_sr (lx_ok γ) ?_
         simp -implicitDefEqProofs only [go_sem, seval, f1, f2, f3, f4, f7, f8, f9, hq]
         cases f10 : (a1.Op == 14)
         ·rw [if_neg (nF f10)] at h
          refine X_cond (lx_ok γ) ?_
          simp -implicitDefEqProofs only [go_sem, seval, f1, f2, f3, f4, f7, f8, f9, f10, hq]
          refine X_reg (lx_ok γ) ?_
          simp -implicitDefEqProofs only [go_sem, seval, f1, f2, f3, f4, f7, f8, f9, f10, hq]
          refine kJ_in ?_ ⟨(a1.Op == 15), h, rfl, rfl⟩
          exact To.mv [(1, 0)] (BaseR.refl hob) (by simp) (by decide) (by simp only [go_sem]; exact ⟨VM.refA (j := 1) (t := 0) rfl, vS⟩) ⟨⟨_, rfl, OM.box _ _ ⟨vS, vS, vS, vS, vS, vS, VM.self (by simpa using Bd.of_rdK hv1_6), trivial⟩⟩, trivial⟩
         ·rw [if_pos f10] at h
          refine X_cond (lx_ok γ) ?_
          simp -implicitDefEqProofs only [go_sem, seval, f1, f2, f3, f4, f7, f8, f9, f10, hq]
          refine X_skip ?_
          try simp -implicitDefEqProofs only [go_sem]
          refine kJ_in ?_ ⟨true, h, rfl, rfl⟩
          exact To.mv [(1, 0)] (BaseR.refl hob) (by simp) (by decide) (by simp only [go_sem]; exact ⟨VM.refA (j := 1) (t := 0) rfl, vS⟩) ⟨⟨_, rfl, OM.box _ _ ⟨vS, vS, vS, vS, vS, vS, VM.self (by simpa using Bd.of_rdK hv1_6), trivial⟩⟩, trivial⟩
        ·rw [if_pos f9] at h
         refine X_cond (lx_ok γ) ?_
         simp -implicitDefEqProofs only [go_sem, seval, f1, f2, f3, f4, f7, f8, f9, hq]
         refine X_skip ?_
         try simp -implicitDefEqProofs only [go_sem]
         refine kJ_in ?_ ⟨true, h, rfl, rfl⟩
         exact To.mv [(1, 0)] (BaseR.refl hob) (by simp) (by decide) (by simp only [go_sem]; exact ⟨VM.refA (j := 1) (t := 0) rfl, vS⟩) ⟨⟨_, rfl, OM.box _ _ ⟨vS, vS, vS, vS, vS, vS, VM.self (by simpa using Bd.of_rdK hv1_6), trivial⟩⟩, trivial⟩
       ·rw [if_pos f8] at h
        refine X_cond (lx_ok γ) ?_
        simp -implicitDefEqProofs only [go_sem, seval, f1, f2, f3, f4, f7, f8, hq]
        refine X_skip ?_
        try simp -implicitDefEqProofs only [go_sem]
        refine kJ_in ?_ ⟨true, h, rfl, rfl⟩
        exact To.mv [(1, 0)] (BaseR.refl hob) (by simp) (by decide) (by simp only [go_sem]; exact ⟨VM.refA (j := 1) (t := 0) rfl, vS⟩) ⟨⟨_, rfl, OM.box _ _ ⟨vS, vS, vS, vS, vS, vS, VM.self (by simpa using Bd.of_rdK hv1_6), trivial⟩⟩, trivial⟩
      ·rw [if_pos f7] at h
       refine X_cond (lx_ok γ) ?_
       simp -implicitDefEqProofs only [go_sem, seval, f1, f2, f3, f4, f7, hq]
       refine X_skip ?_
       try simp -implicitDefEqProofs only [go_sem]
       refine kJ_in ?_ ⟨true, h, rfl, rfl⟩
       exact To.mv [(1, 0)] (BaseR.refl hob) (by simp) (by decide) (by simp only [go_sem]; exact ⟨VM.refA (j := 1) (t := 0) rfl, vS⟩) ⟨⟨_, rfl, OM.box _ _ ⟨vS, vS, vS, vS, vS, vS, VM.self (by simpa using Bd.of_rdK hv1_6), trivial⟩⟩, trivial⟩
    ·rw [if_pos f4] at h
     refine X_cond (lx_ok γ) ?_
     simp -implicitDefEqProofs only [go_sem, seval, f1, f2, f3, f4, hq]
     refine X_sr (lx_ok γ) ?_
     obtain ⟨x7, f11, h⟩ := bindE h
     simp -implicitDefEqProofs only [go_sem, seval, f1, f2, f3, f4, hq]
     refine callV_eq (shape_within_ok γ _  f11) rfl rfl ?_
     cases f12 : x7
     ·rw [if_neg (nF f12)] at h
      simp -implicitDefEqProofs only [go_sem, seval, f1, f2, f3, f4, f12, hq]
      obtain rfl := sI h
      refine X_ret ?_
      simp -implicitDefEqProofs only [go_sem, seval, f1, f2, f3, f4, f12, hq]
      exact Rt.mv0 (BaseR.refl hob) (by simp) (vS)
     ·rw [if_pos f12] at h
      obtain ⟨x8, f13, h⟩ := bindE h
      simp -implicitDefEqProofs only [go_sem, seval, f1, f2, f3, f4, f12, hq]
      refine callV_eq (shape_within_ok γ _  f13) rfl rfl ?_
      simp -implicitDefEqProofs only [go_sem, seval, f1, f2, f3, f4, f12, hq]
      obtain rfl := sI h
      refine X_ret ?_
      simp -implicitDefEqProofs only [go_sem, seval, f1, f2, f3, f4, f12, hq]
      exact Rt.mv0 (BaseR.refl hob) (by simp) (vS)
   ·rw [if_pos f3] at h
    refine X_cond (lx_ok γ) ?_
    simp -implicitDefEqProofs only [go_sem, seval, f1, f2, f3, hq]
    refine X_sr (lx_ok γ) ?_
    obtain ⟨x9, f14, h⟩ := bindE h
    simp -implicitDefEqProofs only [go_sem, seval, f1, f2, f3, hq]
    refine callV_eq (shape_within_ok γ _  f14) rfl rfl ?_
    simp -implicitDefEqProofs only [go_sem, seval, f1, f2, f3, hq]
    obtain rfl := sI h
    refine X_ret ?_
    simp -implicitDefEqProofs only [go_sem, seval, f1, f2, f3, hq]
    exact Rt.mv0 (BaseR.refl hob) (by simp) (vS)
  ·rw [if_pos f2] at h
   refine X_cond (lx_ok γ) ?_
   simp -implicitDefEqProofs only [go_sem, seval, f1, f2, hq]
   refine X_sr (lx_ok γ) ?_
   obtain ⟨x10, f15, h⟩ := bindE h
   simp -implicitDefEqProofs only [go_sem, seval, f1, f2, hq]
   refine callV_eq (shape_within_ok γ _  f15) rfl rfl ?_
   simp -implicitDefEqProofs only [go_sem, seval, f1, f2, hq]
   obtain rfl := sI h
   refine X_ret ?_
   simp -implicitDefEqProofs only [go_sem, seval, f1, f2, hq]
   exact Rt.mv0 (BaseR.refl hob) (by simp) (vS)
 ·rw [if_pos f1] at h
  refine X_cond (lx_ok γ) ?_
  simp -implicitDefEqProofs only [go_sem, seval, f1, hq]
  refine X_seq ?_
  refine X_drawn (lx_ok γ) [[], [0], [], [2], [2, 3], [2, 3, 4], [0, 1, 2, 3, 4, 5], [0, 1, 2, 3, 4, 5, 6], [0, 1, 2, 3, 4, 5, 6, 7], [0, 1, 2, 3, 4, 5, 6, 7, 8], [0, 1, 2, 3, 4, 5, 6, 7, 8, 9], [0, 1, 2, 3, 4, 5, 6, 7], [0, 1, 2, 3, 4, 5, 6, 7, 11], [0, 1, 2, 3, 4, 5, 6, 7], [0, 1, 2, 3, 4, 5, 6, 7, 13], [0, 1, 2, 3, 4, 5, 6, 7, 11, 12, 13, 14], [0, 1, 2, 3, 4, 5, 6, 7, 11, 12, 13, 14, 15], [0, 1, 2, 3, 4, 5, 6, 7, 11, 12, 13, 14, 15, 16], [0, 1, 2, 3, 4, 5, 6, 7, 8, 9, 10, 11, 12, 13, 14, 15, 16, 17], [0, 1, 2, 3, 4, 5, 6, 7, 8, 9, 10, 11, 12, 13, 14, 15, 16, 17, 18], [0, 1, 2, 3, 4, 5, 6, 7, 8, 9, 10, 11, 12, 13, 14, 15, 16, 17, 18, 19]] (fun i => match i with | _ => false) (by kernel_rfl) ?_
  obtain ⟨x11, f16, h⟩ := bindE h
  try simp -implicitDefEqProofs only [go_sem, seval, f1, hq, cmpr, List.getD_cons_zero, List.getD_cons_succ, List.contains_cons, List.contains_nil, Nat.reduceBEq, Bool.false_or, Bool.or_false, Bool.true_or, Bool.or_true, beq_self_eq_true]
  refine callV_eq (shape_within_ok γ _  f16) rfl rfl ?_
  cases f17 : x11
  ·rw [if_neg (nF f17)] at h
   try simp -implicitDefEqProofs only [go_sem, seval, f1, f17, hq, cmpr, List.getD_cons_zero, List.getD_cons_succ, List.contains_cons, List.contains_nil, Nat.reduceBEq, Bool.false_or, Bool.or_false, Bool.true_or, Bool.or_true, beq_self_eq_true]
   obtain rfl := sI h
   refine X_ret ?_
   simp -implicitDefEqProofs only [go_sem, seval, f1, f17, hq]
   exact Rt.mv0 (BaseR.refl hob) (by simp) (vS)
  ·rw [if_pos f17] at h
   obtain ⟨x12, f18, h⟩ := bindE h
   obtain ⟨f19, f20, f21⟩ := ixL_some f18
   try simp only [Int.toNat_natCast, Int.reduceToNat] at f21
   try simp -implicitDefEqProofs only [go_sem, seval, f1, f17, hq, f19, f20, f21, cmpr, List.getD_cons_zero, List.getD_cons_succ, List.contains_cons, List.contains_nil, Nat.reduceBEq, Bool.false_or, Bool.or_false, Bool.true_or, Bool.or_true, beq_self_eq_true]
   obtain rfl := sI h
   refine X_ret ?_
   simp -implicitDefEqProofs only [go_sem, seval, f1, f17, hq, f19, f20, f21]
   exact Rt.mv0 (BaseR.refl hob) (by simp) (vS)
end Go.Pf
end
section
set_option maxRecDepth 100000
namespace Go.Pf
open Go Go.Ab Go.Pp Go.Proofs Go.Proofs.S04
attribute [local go_sem] Lxτ Lxγ gam0 Int.toNat_natCast tau3 tau4 tau28 tau29 tau31 tau35 tau42 tau44 eI eB eS e_Ins e_Block e_Func e_Prog e_code_writer e_code_reader e_Edge
set_option maxHeartbeats 1000000 in
theorem shape_Ins_1_ok (γ : GT) (ob : OT) {a0 : Int} {o1 : Nat} {a1 : Func} (hx1 : getO ob o1 = some (O.box [V.tr (.sl 1 false (List.map (eI .i64) a1.Kinds)), V.tr (.sl 1 false (List.map (eI .i64) a1.Base)), vint .i64 a1.Params, vint .i64 a1.Result, V.tr (.sl 1 false (List.map e_Block a1.Blocks))])) {r : Bool} (h : shape_Ins_1 a0 a1 = some r) :
  Valid (Lx γ) 49 [vint .i64 a0, V.ref o1 0] ob (vbool r) ob := by
 refine valid_X (lx_ok γ) (fn := Tryd.f49) (rs := [.tmp 3]) Tryd.func49 (by kernel_rfl) rfl rfl Tryd.ntmps49 rfl (by simp) fun hb hob => ?_
 have hoa1 := getO_lt hx1
 rw [shape_Ins_1] at h
 refine X_sr (lx_ok γ) ?_
 simp -implicitDefEqProofs only [go_sem, seval, hx1, getO_ext hx1]
 refine X_sr (lx_ok γ) ?_
 obtain ⟨x1, f1, h⟩ := bindE h
 simp -implicitDefEqProofs only [go_sem, seval, hx1, getO_ext hx1]
 refine callV_eq (shape_within_ok γ _  f1) rfl rfl ?_
 simp -implicitDefEqProofs only [go_sem, seval, hx1, getO_ext hx1]
 obtain rfl := sI h
 refine X_ret ?_
 simp -implicitDefEqProofs only [go_sem, seval, hx1, getO_ext hx1]
 exact Rt.mv1 (BaseR.refl hob) (by simp) (vS)
end Go.Pf
end
section
set_option maxRecDepth 100000
namespace Go.Pf
open Go Go.Ab Go.Pp Go.Proofs Go.Proofs.S04
attribute [local go_sem] Lxτ Lxγ gam0 Int.toNat_natCast tau3 tau4 tau28 tau29 tau31 tau35 tau42 tau44 eI eB eS e_Ins e_Block e_Func e_Prog e_code_writer e_code_reader e_Edge
set_option maxHeartbeats 1000000 in
theorem shape_Ins_2_ok (γ : GT) (ob : OT) {a0 : Int} {o1 : Nat} {a1 : Func} (hx1 : getO ob o1 = some (O.box [V.tr (.sl 1 false (List.map (eI .i64) a1.Kinds)), V.tr (.sl 1 false (List.map (eI .i64) a1.Base)), vint .i64 a1.Params, vint .i64 a1.Result, V.tr (.sl 1 false (List.map e_Block a1.Blocks))])) {r : Bool} (h : shape_Ins_2 a0 a1 = some r) :
  Valid (Lx γ) 50 [vint .i64 a0, V.ref o1 0] ob (vbool r) ob := by
 refine valid_X (lx_ok γ) (fn := Tryd.f50) (rs := [.tmp 3]) Tryd.func50 (by kernel_rfl) rfl rfl Tryd.ntmps50 rfl (by simp) fun hb hob => ?_
 have hoa1 := getO_lt hx1
 rw [shape_Ins_2] at h
 refine X_sr (lx_ok γ) ?_
 simp -implicitDefEqProofs only [go_sem, seval, hx1, getO_ext hx1]
 refine X_sr (lx_ok γ) ?_
 obtain ⟨x1, f1, h⟩ := bindE h
 simp -implicitDefEqProofs only [go_sem, seval, hx1, getO_ext hx1]
 refine callV_eq (shape_within_ok γ _  f1) rfl rfl ?_
 simp -implicitDefEqProofs only [go_sem, seval, hx1, getO_ext hx1]
 obtain rfl := sI h
 refine X_ret ?_
 simp -implicitDefEqProofs only [go_sem, seval, hx1, getO_ext hx1]
 exact Rt.mv1 (BaseR.refl hob) (by simp) (vS)
end Go.Pf
end
section
set_option maxRecDepth 100000
namespace Go.Pf
open Go Go.Ab Go.Pp Go.Proofs Go.Proofs.S04
attribute [local go_sem] Lxτ Lxγ gam0 Int.toNat_natCast tau3 tau28 eI eB eS e_Ins e_Block e_Func e_Prog e_code_writer e_code_reader e_Edge
set_option maxHeartbeats 1000000 in
theorem slices_IndexFunc_int_ok (γ : GT) (ob : OT) {a0 : List Int} {v0 : V} {a1 : Int → Option (Bool)} {w1 : V} (hv0 : rdK (getO ob) 1 v0 = some (List.map (eI .i64) a0)) (hf1 : ∀ (ob1 : OT), ob <+: ob1 → ∀ (y0 : Int) (r : Bool), a1 y0 = some r → FnV (Lx γ) w1 [vint .i64 y0] ob1 (vbool r) ob1) {r : Int} (h : slices_IndexFunc_int a0 a1 = some r) :
  Valid (Lx γ) 77 [v0, w1] ob (vint .i64 r) ob := by
 refine valid_X (lx_ok γ) (fn := Tryd.f77) (rs := [.tmp 4]) Tryd.func77 (by kernel_rfl) rfl rfl Tryd.ntmps77 rfl (by simp) fun hb hob => ?_
 have hq := rd4 hv0
 rw [slices_IndexFunc_int] at h
 refine X_sr (lx_ok γ) ?_
 simp -implicitDefEqProofs only [go_sem, seval, hq]
 refine X_seq ?_
 refine X_sr (lx_ok γ) ?_
 simp -implicitDefEqProofs only [go_sem, seval, hq]
 refine X_jq (J := fun as1 ob1 => slices_IndexFunc_int.k1 = some r ∧ [] = as1 ∧ ob = ob1) ?_ ?_
 ·rintro as1 ob1 ⟨h, rfl, rfl⟩
  rw [slices_IndexFunc_int.k1] at h
  simp -implicitDefEqProofs only [go_sem, seval, hq]
  refine X_sr (lx_ok γ) ?_
  simp -implicitDefEqProofs only [go_sem, seval, hq]
  obtain rfl := sI h
  refine X_ret ?_
  simp -implicitDefEqProofs only [go_sem, seval, hq]
  exact Rt.mv1 (BaseR.refl hob) (by simp) (vS)
 ·refine X_block ?_
  obtain ⟨lr1, hl1, hk1, hr1⟩ := aft2 h
  refine X_forN hl1 (fun (i1 : Nat) (s : Unit) as1 ob1 => [(0, v0), (1, w1), (7, vint .i64 (List.length a0 : Int)), (8, vint .i64 (i1 : Int))] = as1 ∧ ob = ob1) ⟨_, _, ?_, rfl, rfl⟩ ?_ ?_
  ·exact To.mv1 (BaseR.refl hob) (by simp) (by simp only [go_sem]; exact ⟨VM.self (by simpa using Bd.of_rdK hv0), VM.self (by simpa using hb w1 (by simp)), vS, VM.eqv (by simp) (by simp)⟩)
  ·rintro i1 _ o1 hi1 hw1 h ho1 as1 ob1 ⟨rfl, rfl⟩
   rw [slices_IndexFunc_int.b1] at h
   refine X_sr (lx_ok γ) ?_
   simp -implicitDefEqProofs only [go_sem, seval, hi1, hq]
   refine X_seq ?_
   refine X_cond (lx_ok γ) ?_
   simp -implicitDefEqProofs only [go_sem, seval, hi1, hq]
   refine X_skip ?_
   try simp -implicitDefEqProofs only [go_sem]
   refine X_seq ?_
   refine X_block ?_
   refine X_sr (lx_ok γ) ?_
   simp -implicitDefEqProofs only [go_sem, seval, hi1, hq]
   refine X_sr (lx_ok γ) ?_
   obtain ⟨x2, f1, h⟩ := bindE h
   obtain ⟨f2, f3⟩ := ixL_nat f1
   have f4 : (0 : Int) ≤ (i1 : Int) := Int.natCast_nonneg _
   obtain ⟨x3, f5, h⟩ := bindE h
   simp -implicitDefEqProofs only [go_sem, seval, hi1, hq, f2, f3, f4]
   refine callV_fn (hf1 _ List.prefix_rfl _ _ f5) rfl rfl ?_
   simp -implicitDefEqProofs only [go_sem, seval, hi1, hq, f2, f3, f4]
   cases f6 : x3
   ·rw [if_neg (nF f6)] at h
    refine X_cond (lx_ok γ) ?_
    simp -implicitDefEqProofs only [go_sem, seval, hi1, f6, hq, f2, f3, f4]
    refine X_skip ?_
    try simp -implicitDefEqProofs only [go_sem]
    refine X_reg (lx_ok γ) ?_
    obtain rfl := sI h
    simp -implicitDefEqProofs only [go_sem, seval, hi1, f6, hq]
    refine kR_in rfl ?_ ⟨rfl, rfl⟩
    exact To.mv1 (BaseR.refl hob) (by simp) (by simp only [go_sem]; exact ⟨VM.self (by simpa using Bd.of_rdK hv0), VM.self (by simpa using hb w1 (by simp)), vS, VM.eqv (by rw [hw1]) (by simp)⟩)
   ·rw [if_pos f6] at h
    refine X_cond (lx_ok γ) ?_
    simp -implicitDefEqProofs only [go_sem, seval, hi1, f6, hq, f2, f3, f4]
    refine X_sr (lx_ok γ) ?_
    simp -implicitDefEqProofs only [go_sem, seval, hi1, f6, hq]
    obtain rfl := sI h
    have h := hr1 _ (ho1 (fun _ hs => nomatch hs))
    obtain rfl := sI h
    refine X_ret ?_
    simp -implicitDefEqProofs only [go_sem, seval, hi1, f6, hq]
    exact Rt.mv1 (BaseR.refl hob) (by simp) (vS)
  ·rintro i1 _ hi1 hn1 as1 ob1 ⟨rfl, rfl⟩
   refine X_sr (lx_ok γ) ?_
   simp -implicitDefEqProofs only [go_sem, seval, hi1, hq]
   refine X_seq ?_
   refine X_cond (lx_ok γ) ?_
   simp -implicitDefEqProofs only [go_sem, seval, hi1, hq]
   have h := hk1 _ (.inl hn1)
   refine X_exit ?_
   try simp -implicitDefEqProofs only [go_sem, ↓reduceIte, Nat.reduceEqDiff, reduceCtorEq]
   refine kJ_in ?_ ⟨h, rfl, rfl⟩
   exact To.mv1 (BaseR.refl hob) (by simp) trivial
end Go.Pf
end
section
set_option maxRecDepth 100000
namespace Go.Pf
open Go Go.Ab Go.Pp Go.Proofs Go.Proofs.S04
attribute [local go_sem] Lxτ Lxγ gam0 Int.toNat_natCast tau3 tau28 tau39 eI eB eS e_Ins e_Block e_Func e_Prog e_code_writer e_code_reader e_Edge
set_option maxHeartbeats 1000000 in
theorem slices_ContainsFunc_int_ok (γ : GT) (ob : OT) {a0 : List Int} {v0 : V} {a1 : Int → Option (Bool)} {w1 : V} (hv0 : rdK (getO ob) 1 v0 = some (List.map (eI .i64) a0)) (hf1 : ∀ (ob1 : OT), ob <+: ob1 → ∀ (y0 : Int) (r : Bool), a1 y0 = some r → FnV (Lx γ) w1 [vint .i64 y0] ob1 (vbool r) ob1) {r : Bool} (h : slices_ContainsFunc_int a0 a1 = some r) :
  Valid (Lx γ) 51 [v0, w1] ob (vbool r) ob := by
 refine valid_X (lx_ok γ) (fn := Tryd.f51) (rs := [.tmp 4]) Tryd.func51 (by kernel_rfl) rfl rfl Tryd.ntmps51 rfl (by simp) fun hb hob => ?_
 have hq := rd4 hv0
 rw [slices_ContainsFunc_int] at h
 refine X_sr (lx_ok γ) ?_
 simp -implicitDefEqProofs only [go_sem, seval, hq]
 refine X_sr (lx_ok γ) ?_
 obtain ⟨x1, f1, h⟩ := bindE h
 simp -implicitDefEqProofs only [go_sem, seval, hq]
 refine callV_eq (slices_IndexFunc_int_ok γ _ (by first | exact rdK_app hv0 | exact hv0) hf1 f1) rfl rfl ?_
 simp -implicitDefEqProofs only [go_sem, seval, hq]
 obtain rfl := sI h
 refine X_ret ?_
 simp -implicitDefEqProofs only [go_sem, seval, hq]
 exact Rt.mv1 (BaseR.refl hob) (by simp) (vS)
end Go.Pf
end
section
set_option maxRecDepth 100000
namespace Go.Pf
open Go Go.Ab Go.Pp Go.Proofs Go.Proofs.S04
attribute [local go_sem] Lxτ Lxγ gam0 Int.toNat_natCast List.append_eq List.cons_append List.nil_append tau3 tau4 tau9 tau22 tau24 tau28 tau29 tau31 tau35 tau39 tau42 tau44 eI eB eS e_Ins e_Block e_Func e_Prog e_code_writer e_code_reader e_Edge
set_option maxHeartbeats 1000000 in
theorem shape_Ins_ok (γ : GT) (ob : OT) {a0 : Prog} {v0_0 : V} {a1 : Int} {a2 : Ins} {v2_6 : V} (hv0_0 : rdK (getO ob) 5 v0_0 = some (List.map e_Func a0.Funcs)) (hv2_6 : rdK (getO ob) 1 v2_6 = some (List.map (eI .i64) a2.Args)) {r : Bool} (h : shape_Ins a0 a1 a2 = some r) :
  Valid (Lx γ) 17 [V.agg [v0_0], vint .i64 a1, V.agg [vint .i64 a2.Op, vint .i64 a2.D, vint .i64 a2.A, vint .i64 a2.B, vint .i64 a2.N, vint .i64 a2.M, v2_6]] ob (vbool r) ob := by
 refine valid_X (lx_ok γ) (fn := Tryd.f17) (rs := [.tmp 6]) Tryd.func17 (by kernel_rfl) rfl rfl Tryd.ntmps17 rfl (by simp) fun hb hob => ?_
 have hq := And.intro (rd4 hv0_0) (rd4 hv2_6)
 rw [shape_Ins] at h
 refine X_sr (lx_ok γ) ?_
 simp -implicitDefEqProofs only [go_sem, seval, hq]
 refine X_seq ?_
 refine X_seq ?_
 refine X_jq (J := fun as1 ob1 => ∃ (x2 : Bool), shape_Ins.j1 a0 a1 a2 x2 = some r ∧ [(1, vint .i64 a1), (3, V.ref ob.length 0), (5, V.ref (ob.length + 1) 0), (36, vbool x2)] = as1 ∧ ob ++ [some (O.box [v0_0]), some (O.box [vint .i64 a2.Op, vint .i64 a2.D, vint .i64 a2.A, vint .i64 a2.B, vint .i64 a2.N, vint .i64 a2.M, v2_6])] = ob1) ?_ ?_
 ·rintro as1 ob1 ⟨x2, h, rfl, rfl⟩
  rw [shape_Ins.j1] at h
  simp -implicitDefEqProofs only [go_sem, seval, hq]
  cases f1 : x2
  ·rw [if_neg (nF f1)] at h
   refine X_cond (lx_ok γ) ?_
   simp -implicitDefEqProofs only [go_sem, seval, f1, hq]
   refine X_skip ?_
   try simp -implicitDefEqProofs only [go_sem]
   refine X_sr (lx_ok γ) ?_
   obtain ⟨x3, f2, h⟩ := bindE h
   obtain ⟨f3, f4, f5⟩ := ixL_some f2
   try simp only [Int.toNat_natCast, Int.reduceToNat] at f5
   simp -implicitDefEqProofs only [go_sem, seval, f1, hq, f3, f4, f5]
   refine X_sr (lx_ok γ) ?_
   obtain ⟨x4, f6, h⟩ := bindE h
   simp -implicitDefEqProofs only [go_sem, seval, f1, hq]
   refine callV_eq (shape_Uses_ok γ _ (by first | exact rdK_app hv2_6 | exact hv2_6) f6) rfl rfl ?_
   simp -implicitDefEqProofs only [go_sem, seval, f1, hq]
   refine X_seq ?_
   refine X_jq (J := fun as1 ob1 => ∃ (x5 : List Int), shape_Ins.j2 a2 x3 x5 = some r ∧ [(5, V.ref ob.length 0), (7, V.ref (ob.length + 1) 0), (8, V.row (ob.length + 2) 0 0 (List.length x5))] = as1 ∧ ob ++ [some (O.box [vint .i64 a2.Op, vint .i64 a2.D, vint .i64 a2.A, vint .i64 a2.B, vint .i64 a2.N, vint .i64 a2.M, v2_6]), some (O.box [V.tr (.sl 1 false (List.map (eI .i64) x3.Kinds)), V.tr (.sl 1 false (List.map (eI .i64) x3.Base)), vint .i64 x3.Params, vint .i64 x3.Result, V.tr (.sl 1 false (List.map e_Block x3.Blocks))]), some (O.row 1 0 (List.map (eI .i64) x5))] = ob1) ?_ ?_
   ·rintro as1 ob1 ⟨x5, h, rfl, rfl⟩
    rw [shape_Ins.j2] at h
    simp -implicitDefEqProofs only [go_sem, seval, f1, hq]
    refine X_sr (lx_ok γ) ?_
    simp -implicitDefEqProofs only [go_sem, seval, f1, hq]
    refine X_sr (lx_ok γ) ?_
    simp -implicitDefEqProofs only [go_sem, seval, f1, hq]
    refine X_sr (lx_ok γ) ?_
    obtain ⟨x6, f7, h⟩ := bindE h
    simp -implicitDefEqProofs only [go_sem, seval, f1, hq]
    refine callV_eq (slices_ContainsFunc_int_ok γ _ (by simp -implicitDefEqProofs only [go_sem, seval, f1, hq]; try rfl) (fun ob1 hp y0 r hx => by obtain ⟨l, rfl⟩ := hp; exact shape_Ins_1_ok γ _ (by simp -implicitDefEqProofs only [go_sem, seval, f1, hq]; try rfl) hx) f7) rfl rfl ?_
    cases f8 : x6
    ·rw [if_neg (nF f8)] at h
     obtain ⟨x7, f9, h⟩ := bindE h
     simp -implicitDefEqProofs only [go_sem, seval, f1, f8, hq]
     refine callV_eq (shape_Next_ok γ _ (by first | exact rdK_app hv2_6 | exact hv2_6) f9) rfl rfl ?_
     obtain ⟨x8, f10, h⟩ := bindE h
     simp -implicitDefEqProofs only [go_sem, seval, f1, f8, hq]
     refine callV_eq (slices_ContainsFunc_int_ok γ _ (by simp -implicitDefEqProofs only [go_sem, seval, f1, f8, hq]; try rfl) (fun ob1 hp y0 r hx => by obtain ⟨l, rfl⟩ := hp; exact shape_Ins_2_ok γ _ (by simp -implicitDefEqProofs only [go_sem, seval, f1, f8, hq]; try rfl) hx) f10) rfl rfl ?_
     simp -implicitDefEqProofs only [go_sem, seval, f1, f8, hq]
     obtain rfl := sI h
     refine X_ret ?_
     simp -implicitDefEqProofs only [go_sem, seval, f1, f8, hq]
     exact Rt.mv0 (BaseR.refl hob) (by simp) (vS)
    ·rw [if_pos f8] at h
     simp -implicitDefEqProofs only [go_sem, seval, f1, f8, hq]
     obtain rfl := sI h
     refine X_ret ?_
     simp -implicitDefEqProofs only [go_sem, seval, f1, f8, hq]
     exact Rt.mv0 (BaseR.refl hob) (by simp) (vS)
   ·refine X_sr (lx_ok γ) ?_
    obtain ⟨x9, f11, h⟩ := bindE h
    simp -implicitDefEqProofs only [go_sem, seval, f1, hq]
    refine callV_eq (shape_Sets_ok γ _ (by first | exact rdK_app hv2_6 | exact hv2_6) f11) rfl rfl ?_
    simp -implicitDefEqProofs only [go_sem, seval, f1, hq]
    refine X_sr (lx_ok γ) ?_
    simp -implicitDefEqProofs only [go_sem, seval, f1, hq]
    cases f12 : x9.2
    ·rw [if_neg (nF f12)] at h
     refine X_cond (lx_ok γ) ?_
     simp -implicitDefEqProofs only [go_sem, seval, f1, f12, hq]
     refine X_skip ?_
     try simp -implicitDefEqProofs only [go_sem]
     refine kJ_in ?_ ⟨x4, h, rfl, rfl⟩
     exact To.mv [(1, 0), (2, 0), (3, 0)] (BaseR.refl hob) (by simp) (by decide) (by simp only [go_sem]; exact ⟨VM.refA (j := 1) (t := 0) rfl, VM.refA (j := 2) (t := 1) rfl, VM.rowL (j := 3) (t := 2) rfl (by first | rfl | simp | simp_all | omega)⟩) ⟨⟨_, rfl, OM.box _ _ ⟨vS, vS, vS, vS, vS, vS, VM.self (by simpa using Bd.of_rdK hv2_6), trivial⟩⟩, ⟨_, rfl, OM.box _ _ ⟨vS, vS, vS, vS, vS, trivial⟩⟩, ⟨_, rfl, OM.row' (by first | rfl | simp_all)⟩, trivial⟩
    ·rw [if_pos f12] at h
     refine X_cond (lx_ok γ) ?_
     simp -implicitDefEqProofs only [go_sem, seval, f1, f12, hq]
     refine X_reg (lx_ok γ) ?_
     obtain ⟨x10, f13, h⟩ := bindE h
     have f14 : List.length x10 * 8 ≤ 140737488355328 := by have := (appL_some f13).1; rw [(appL_some f13).2]; simpa using this
     have f15 : List.map (eI .i64) x4 ++ [[.lit (.int .i64 x9.1)]] = List.map (eI .i64) x10 := by rw [(appL_some f13).2]; simp [eB, eI, eS]
     have f16 : List.length x4 + 1 = List.length x10 := by rw [(appL_some f13).2]; simp
     simp -implicitDefEqProofs only [go_sem, seval, f1, f12, hq, f14, f15, f16]
     refine kJ_in ?_ ⟨x10, h, rfl, rfl⟩
     exact To.mv [(1, 0), (2, 0), (3, 1)] (BaseR.refl hob) (by simp) (by decide) (by simp only [go_sem]; exact ⟨VM.refA (j := 1) (t := 0) rfl, VM.refA (j := 2) (t := 1) rfl, VM.rowL (j := 3) (t := 2) rfl (by first | rfl | simp | simp_all | omega)⟩) ⟨⟨_, rfl, OM.box _ _ ⟨vS, vS, vS, vS, vS, vS, VM.self (by simpa using Bd.of_rdK hv2_6), trivial⟩⟩, ⟨_, rfl, OM.box _ _ ⟨vS, vS, vS, vS, vS, trivial⟩⟩, ⟨_, rfl, OM.row' (by first | rfl | simp_all)⟩, trivial⟩
  ·rw [if_pos f1] at h
   refine X_cond (lx_ok γ) ?_
   simp -implicitDefEqProofs only [go_sem, seval, f1, hq]
   refine X_sr (lx_ok γ) ?_
   simp -implicitDefEqProofs only [go_sem, seval, f1, hq]
   obtain rfl := sI h
   refine X_ret ?_
   simp -implicitDefEqProofs only [go_sem, seval, f1, hq]
   exact Rt.mv0 (BaseR.refl hob) (by simp) (vS)
 ·refine X_reg (lx_ok γ) ?_
  obtain ⟨x11, f17, h⟩ := bindE h
  simp -implicitDefEqProofs only [go_sem, seval, hq]
  refine callV_eq (shape_within_ok γ _  f17) rfl rfl ?_
  cases f18 : x11
  ·rw [if_neg (nF f18)] at h
   simp -implicitDefEqProofs only [go_sem, seval, f18, hq]
   refine kJ_in ?_ ⟨true, h, rfl, rfl⟩
   exact To.mv [(0, 0), (1, 0)] (BaseR.refl hob) (by simp) (by decide) (by simp only [go_sem]; exact ⟨vS, VM.refA (j := 0) (t := 0) rfl, VM.refA (j := 1) (t := 1) rfl, vS⟩) ⟨⟨_, rfl, OM.box _ _ ⟨VM.self (by simpa using Bd.of_rdK hv0_0), trivial⟩⟩, ⟨_, rfl, OM.box _ _ ⟨vS, vS, vS, vS, vS, vS, VM.self (by simpa using Bd.of_rdK hv2_6), trivial⟩⟩, trivial⟩
  ·rw [if_pos f18] at h
   obtain ⟨x12, f19, h⟩ := bindE h
   simp -implicitDefEqProofs only [go_sem, seval, f18, hq]
   refine callV_eq (code_Parts_ok γ _  f19) rfl rfl ?_
   cases f20 : (ByteArray.toList x12 == ByteArray.toList ({ data := #[] } : ByteArray))
   ·rw [if_neg (nF f20)] at h
    obtain ⟨x13, f21, h⟩ := bindE h
    simp -implicitDefEqProofs only [go_sem, seval, f18, f20, hq]
    refine callV_eq (shape_bare_ok γ _ (by first | exact rdK_app hv2_6 | exact hv2_6) f21) rfl rfl ?_
    cases f22 : x13
    ·rw [if_neg (nF f22)] at h
     simp -implicitDefEqProofs only [go_sem, seval, f18, f20, f22, hq]
     refine kJ_in ?_ ⟨true, h, rfl, rfl⟩
     exact To.mv [(0, 0), (1, 0)] (BaseR.refl hob) (by simp) (by decide) (by simp only [go_sem]; exact ⟨vS, VM.refA (j := 0) (t := 0) rfl, VM.refA (j := 1) (t := 1) rfl, vS⟩) ⟨⟨_, rfl, OM.box _ _ ⟨VM.self (by simpa using Bd.of_rdK hv0_0), trivial⟩⟩, ⟨_, rfl, OM.box _ _ ⟨vS, vS, vS, vS, vS, vS, VM.self (by simpa using Bd.of_rdK hv2_6), trivial⟩⟩, trivial⟩
    ·rw [if_pos f22] at h
     obtain ⟨x14, f23, h⟩ := bindE h
     simp -implicitDefEqProofs only [go_sem, seval, f18, f20, f22, hq]
     refine callV_eq (shape_numbers_ok γ _ (by first | exact rdK_app hv0_0 | exact hv0_0) (by first | exact rdK_app hv2_6 | exact hv2_6) f23) rfl rfl ?_
     simp -implicitDefEqProofs only [go_sem, seval, f18, f20, f22, hq]
     refine kJ_in ?_ ⟨(!x14), h, rfl, rfl⟩
     exact To.mv [(0, 0), (1, 0)] (BaseR.refl hob) (by simp) (by decide) (by simp only [go_sem]; exact ⟨vS, VM.refA (j := 0) (t := 0) rfl, VM.refA (j := 1) (t := 1) rfl, vS⟩) ⟨⟨_, rfl, OM.box _ _ ⟨VM.self (by simpa using Bd.of_rdK hv0_0), trivial⟩⟩, ⟨_, rfl, OM.box _ _ ⟨vS, vS, vS, vS, vS, vS, VM.self (by simpa using Bd.of_rdK hv2_6), trivial⟩⟩, trivial⟩
   ·rw [if_pos f20] at h
    simp -implicitDefEqProofs only [go_sem, seval, f18, f20, hq]
    refine kJ_in ?_ ⟨true, h, rfl, rfl⟩
    exact To.mv [(0, 0), (1, 0)] (BaseR.refl hob) (by simp) (by decide) (by simp only [go_sem]; exact ⟨vS, VM.refA (j := 0) (t := 0) rfl, VM.refA (j := 1) (t := 1) rfl, vS⟩) ⟨⟨_, rfl, OM.box _ _ ⟨VM.self (by simpa using Bd.of_rdK hv0_0), trivial⟩⟩, ⟨_, rfl, OM.box _ _ ⟨vS, vS, vS, vS, vS, vS, VM.self (by simpa using Bd.of_rdK hv2_6), trivial⟩⟩, trivial⟩
end Go.Pf
end
section
set_option maxRecDepth 100000
namespace Go.Pf
open Go Go.Ab Go.Pp Go.Proofs Go.Proofs.S04
attribute [local go_sem] Lxτ Lxγ gam0 Int.toNat_natCast tau3 tau4 tau22 tau24 tau28 tau29 tau31 tau35 tau42 tau44 eI eB eS e_Ins e_Block e_Func e_Prog e_code_writer e_code_reader e_Edge
set_option maxHeartbeats 1000000 in
theorem shape_Check_1_ok (γ : GT) (ob : OT) {a0 : Ins} {v0_6 : V} {o1 : Nat} {a1 : Prog} {o2 : Nat} {a2 : Int} (hv0_6 : rdK (getO ob) 1 v0_6 = some (List.map (eI .i64) a0.Args)) (hx1 : getO ob o1 = some (O.box [V.tr (.sl 5 false (List.map e_Func a1.Funcs))])) (hx2 : getO ob o2 = some (O.box [vint .i64 a2])) {r : Bool} (h : shape_Check_1 a0 a1 a2 = some r) :
  Valid (Lx γ) 43 [V.agg [vint .i64 a0.Op, vint .i64 a0.D, vint .i64 a0.A, vint .i64 a0.B, vint .i64 a0.N, vint .i64 a0.M, v0_6], V.ref o1 0, V.ref o2 0] ob (vbool r) ob := by
 refine valid_X (lx_ok γ) (fn := Tryd.f43) (rs := [.tmp 4]) Tryd.func43 (by kernel_rfl) rfl rfl Tryd.ntmps43 rfl (by simp) fun hb hob => ?_
 have hq := rd4 hv0_6
 have hoa1 := getO_lt hx1
 have hoa2 := getO_lt hx2
 rw [shape_Check_1] at h
 refine X_sr (lx_ok γ) ?_
 simp -implicitDefEqProofs only [go_sem, seval, hq, hx1, hx2, getO_ext hx1, getO_ext hx2]
 refine X_sr (lx_ok γ) ?_
 obtain ⟨x1, f1, h⟩ := bindE h
 simp -implicitDefEqProofs only [go_sem, seval, hq, hx1, hx2, getO_ext hx1, getO_ext hx2]
 refine callV_eq (shape_Ins_ok γ _ (by simp -implicitDefEqProofs only [go_sem, seval, hq, hx1, hx2, getO_ext hx1, getO_ext hx2]; try rfl) (by first | exact rdK_app hv0_6 | exact hv0_6) f1) rfl rfl ?_
 simp -implicitDefEqProofs only [go_sem, seval, hq, hx1, hx2, getO_ext hx1, getO_ext hx2]
 obtain rfl := sI h
 refine X_ret ?_
 simp -implicitDefEqProofs only [go_sem, seval, hq, hx1, hx2, getO_ext hx1, getO_ext hx2]
 exact Rt.mv0 (BaseR.refl hob) (by simp) (vS)
end Go.Pf
end
section
set_option maxRecDepth 100000
namespace Go.Pf
open Go Go.Ab Go.Pp Go.Proofs Go.Proofs.S04
attribute [local go_sem] Lxτ Lxγ gam0 Int.toNat_natCast tau3 tau4 tau22 tau24 tau28 tau29 tau31 tau35 tau42 tau44 tau61 eI eB eS e_Ins e_Block e_Func e_Prog e_code_writer e_code_reader e_Edge
set_option maxHeartbeats 1000000 in
theorem shape_Check_ok (γ : GT) (ob : OT) {a0 : Prog} {r : Int} (h : shape_Check a0 = some r) :
  Valid (Lx γ) 13 [V.agg [V.tr (.sl 5 false (List.map e_Func a0.Funcs))]] ob (vint .i64 r) ob := by
 refine valid_X (lx_ok γ) (fn := Tryd.f13) (rs := [.tmp 2]) Tryd.func13 (by kernel_rfl) rfl rfl Tryd.ntmps13 rfl (by simp) fun hb hob => ?_
 rw [shape_Check] at h
 refine X_sr (lx_ok γ) ?_
 simp -implicitDefEqProofs only [go_sem, seval]
 refine X_seq ?_
 refine X_seq ?_
 refine X_jq (J := fun as1 ob1 => ∃ (x2 : Bool), shape_Check.j1 a0 x2 = some r ∧ [(1, V.ref ob.length 0), (27, vbool x2)] = as1 ∧ ob ++ [some (O.box [V.tr (.sl 5 false (List.map e_Func a0.Funcs))])] = ob1) ?_ ?_
 ·rintro as1 ob1 ⟨x2, h, rfl, rfl⟩
  rw [shape_Check.j1] at h
  simp -implicitDefEqProofs only [go_sem, seval]
  cases f1 : x2
  ·rw [if_neg (nF f1)] at h
   refine X_cond (lx_ok γ) ?_
   simp -implicitDefEqProofs only [go_sem, seval, f1]
   refine X_skip ?_
   try simp -implicitDefEqProofs only [go_sem]
   refine X_seq ?_
   refine X_sr (lx_ok γ) ?_
   simp -implicitDefEqProofs only [go_sem, seval, f1]
   refine X_jq (J := fun as1 ob1 => shape_Check.k1 = some r ∧ [] = as1 ∧ ob = ob1) ?_ ?_
   ·rintro as1 ob1 ⟨h, rfl, rfl⟩
    rw [shape_Check.k1] at h
    simp -implicitDefEqProofs only [go_sem, seval, f1]
    refine X_sr (lx_ok γ) ?_
    simp -implicitDefEqProofs only [go_sem, seval, f1]
    obtain rfl := sI h
    refine X_ret ?_
    simp -implicitDefEqProofs only [go_sem, seval, f1]
    exact Rt.mv1 (BaseR.refl hob) (by simp) (vS)
   ·refine X_block ?_
    obtain ⟨lr1, hl1, hk1, hr1⟩ := aft2 h
    refine X_forN hl1 (fun (i1 : Nat) (s : Unit) as1 ob1 => [(1, V.ref ob.length 0), (29, V.tr (.sl 5 false (List.map e_Func a0.Funcs))), (30, vint .i64 (List.length a0.Funcs : Int)), (31, vint .i64 (i1 : Int))] = as1 ∧ ob ++ [some (O.box [V.tr (.sl 5 false (List.map e_Func a0.Funcs))])] = ob1) ⟨_, _, ?_, rfl, rfl⟩ ?_ ?_
    ·exact To.mv [(0, 0)] (BaseR.refl hob) (by simp) (by decide) (by simp only [go_sem]; exact ⟨VM.refA (j := 0) (t := 0) rfl, vS, vS, VM.eqv (by simp) (by simp)⟩) ⟨⟨_, rfl, OM.box _ _ ⟨vS, trivial⟩⟩, trivial⟩
    ·rintro i1 _ o1 hi1 hw1 h ho1 as1 ob1 ⟨rfl, rfl⟩
     rw [shape_Check.b1] at h
     refine X_sr (lx_ok γ) ?_
     simp -implicitDefEqProofs only [go_sem, seval, f1, hi1]
     refine X_seq ?_
     refine X_cond (lx_ok γ) ?_
     simp -implicitDefEqProofs only [go_sem, seval, f1, hi1]
     refine X_skip ?_
     try simp -implicitDefEqProofs only [go_sem]
     refine X_seq ?_
     refine X_block ?_
     refine X_sr (lx_ok γ) ?_
     obtain ⟨x4, f2, h⟩ := bindE h
     obtain ⟨f3, f4⟩ := ixL_nat f2
     have f5 : (0 : Int) ≤ (i1 : Int) := Int.natCast_nonneg _
     simp -implicitDefEqProofs only [go_sem, seval, f1, hi1, f3, f4, f5]
     refine X_seq ?_
     refine X_sr (lx_ok γ) ?_
     obtain ⟨x5, f6, h⟩ := bindE h
     simp -implicitDefEqProofs only [go_sem, seval, f1, hi1]
     refine callV_eq (shape_Func_ok γ _  f6) rfl rfl ?_
     simp -implicitDefEqProofs only [go_sem, seval, f1, hi1]
     cases f7 : x5
     ·rw [if_neg (nF f7)] at h
      refine X_cond (lx_ok γ) ?_
      simp -implicitDefEqProofs only [go_sem, seval, f1, hi1, f7]
      refine X_sr (lx_ok γ) ?_
      simp -implicitDefEqProofs only [go_sem, seval, f1, hi1, f7]
      obtain rfl := sI h
      have h := hr1 _ (ho1 (fun _ hs => nomatch hs))
      obtain rfl := sI h
      refine X_ret ?_
      simp -implicitDefEqProofs only [go_sem, seval, f1, hi1, f7]
      exact Rt.mv0 (BaseR.refl hob) (by simp) (vS)
     ·rw [if_pos f7] at h
      refine X_cond (lx_ok γ) ?_
      simp -implicitDefEqProofs only [go_sem, seval, f1, hi1, f7]
      refine X_skip ?_
      try simp -implicitDefEqProofs only [go_sem]
      refine X_sr (lx_ok γ) ?_
      simp -implicitDefEqProofs only [go_sem, seval, f1, hi1, f7]
      refine X_jq (J := fun as1 ob1 => shape_Check.k2 = some o1 ∧ [(1, V.ref ob.length 0), (29, V.tr (.sl 5 false (List.map e_Func a0.Funcs))), (30, vint .i64 (List.length a0.Funcs : Int)), (31, vint .i64 (i1 : Int))] = as1 ∧ ob ++ [some (O.box [V.tr (.sl 5 false (List.map e_Func a0.Funcs))])] = ob1) ?_ ?_
      ·rintro as1 ob1 ⟨h, rfl, rfl⟩
       rw [shape_Check.k2] at h
       simp -implicitDefEqProofs only [go_sem, seval, f1, hi1, f7]
       refine X_reg (lx_ok γ) ?_
       obtain rfl := sI h
       simp -implicitDefEqProofs only [go_sem, seval, f1, hi1, f7]
       refine kR_in rfl ?_ ⟨rfl, rfl⟩
       exact To.mv [(0, 0)] (BaseR.refl hob) (by simp) (by decide) (by simp only [go_sem]; exact ⟨VM.refA (j := 0) (t := 0) rfl, vS, vS, VM.eqv (by rw [hw1]) (by simp)⟩) ⟨⟨_, rfl, OM.box _ _ ⟨vS, trivial⟩⟩, trivial⟩
      ·refine X_block ?_
       obtain ⟨lr2, hl2, hk2, hr2⟩ := aft2 h
       refine X_forN hl2 (fun (i2 : Nat) (s : Unit) as1 ob1 => [(1, V.ref ob.length 0), (3, V.ref (ob.length + 1) 0), (29, V.tr (.sl 5 false (List.map e_Func a0.Funcs))), (30, vint .i64 (List.length a0.Funcs : Int)), (31, vint .i64 (i1 : Int)), (40, V.tr (.sl 1 false (List.map e_Block x4.Blocks))), (41, vint .i64 (List.length x4.Blocks : Int)), (42, vint .i64 (i2 : Int))] = as1 ∧ ob ++ [some (O.box [V.tr (.sl 5 false (List.map e_Func a0.Funcs))]), some (O.box [vint .i64 (i1 : Int)])] = ob1) ⟨_, _, ?_, rfl, rfl⟩ ?_ ?_
       ·exact To.mv [(0, 0), (1, 0)] (BaseR.refl hob) (by simp) (by decide) (by simp only [go_sem]; exact ⟨VM.refA (j := 0) (t := 0) rfl, VM.refA (j := 1) (t := 1) rfl, vS, vS, vS, vS, vS, VM.eqv (by simp) (by simp)⟩) ⟨⟨_, rfl, OM.box _ _ ⟨vS, trivial⟩⟩, ⟨_, rfl, OM.box _ _ ⟨vS, trivial⟩⟩, trivial⟩
       ·rintro i2 _ o2 hi2 hw2 h ho2 as1 ob1 ⟨rfl, rfl⟩
        rw [shape_Check.b2] at h
        refine X_sr (lx_ok γ) ?_
        simp -implicitDefEqProofs only [go_sem, seval, f1, hi1, f7, hi2]
        refine X_seq ?_
        refine X_cond (lx_ok γ) ?_
        simp -implicitDefEqProofs only [go_sem, seval, f1, hi1, f7, hi2]
        refine X_skip ?_
        try simp -implicitDefEqProofs only [go_sem]
        refine X_seq ?_
        refine X_block ?_
        refine X_sr (lx_ok γ) ?_
        obtain ⟨x7, f8, h⟩ := bindE h
        obtain ⟨f9, f10⟩ := ixL_nat f8
        have f11 : (0 : Int) ≤ (i2 : Int) := Int.natCast_nonneg _
        simp -implicitDefEqProofs only [go_sem, seval, f1, hi1, f7, hi2, f9, f10, f11]
        refine X_sr (lx_ok γ) ?_
        obtain ⟨x8, f12, h⟩ := bindE h
        simp -implicitDefEqProofs only [go_sem, seval, f1, hi1, f7, hi2]
        refine callV_eq (slices_ContainsFunc_Ins_ok γ _ (by simp -implicitDefEqProofs only [go_sem, seval, f1, hi1, f7, hi2]; try rfl) (fun ob1 hp y0 r hx => by obtain ⟨l, rfl⟩ := hp; exact shape_Check_1_ok γ _ (by simp -implicitDefEqProofs only [go_sem, seval, f1, hi1, f7, hi2]; try rfl) (by simp -implicitDefEqProofs only [go_sem, seval, f1, hi1, f7, hi2]; try rfl) (by simp -implicitDefEqProofs only [go_sem, seval, f1, hi1, f7, hi2]; try rfl) hx) f12) rfl rfl ?_
        simp -implicitDefEqProofs only [go_sem, seval, f1, hi1, f7, hi2]
        cases f13 : x8
        ·rw [if_neg (nF f13)] at h
         refine X_cond (lx_ok γ) ?_
         simp -implicitDefEqProofs only [go_sem, seval, f1, hi1, f7, hi2, f13]
         refine X_skip ?_
         try simp -implicitDefEqProofs only [go_sem]
         refine X_reg (lx_ok γ) ?_
         obtain rfl := sI h
         simp -implicitDefEqProofs only [go_sem, seval, f1, hi1, f7, hi2, f13]
         refine kR_in rfl ?_ ⟨rfl, rfl⟩
         exact To.mv [(0, 0), (1, 0)] (BaseR.refl hob) (by simp) (by decide) (by simp only [go_sem]; exact ⟨VM.refA (j := 0) (t := 0) rfl, VM.refA (j := 1) (t := 1) rfl, vS, vS, vS, vS, vS, VM.eqv (by rw [hw2]) (by simp)⟩) ⟨⟨_, rfl, OM.box _ _ ⟨vS, trivial⟩⟩, ⟨_, rfl, OM.box _ _ ⟨vS, trivial⟩⟩, trivial⟩
        ·rw [if_pos f13] at h
         refine X_cond (lx_ok γ) ?_
         simp -implicitDefEqProofs only [go_sem, seval, f1, hi1, f7, hi2, f13]
         refine X_sr (lx_ok γ) ?_
         simp -implicitDefEqProofs only [go_sem, seval, f1, hi1, f7, hi2, f13]
         obtain rfl := sI h
         have h := hr2 _ (ho2 (fun _ hs => nomatch hs))
         obtain rfl := sI h
         have h := hr1 _ (ho1 (fun _ hs => nomatch hs))
         obtain rfl := sI h
         refine X_ret ?_
         simp -implicitDefEqProofs only [go_sem, seval, f1, hi1, f7, hi2, f13]
         exact Rt.mv0 (BaseR.refl hob) (by simp) (vS)
       ·rintro i2 _ hi2 hn2 as1 ob1 ⟨rfl, rfl⟩
        refine X_sr (lx_ok γ) ?_
        simp -implicitDefEqProofs only [go_sem, seval, f1, hi1, f7, hi2]
        refine X_seq ?_
        refine X_cond (lx_ok γ) ?_
        simp -implicitDefEqProofs only [go_sem, seval, f1, hi1, f7, hi2]
        have h := hk2 _ (.inl hn2)
        refine X_exit ?_
        try simp -implicitDefEqProofs only [go_sem, ↓reduceIte, Nat.reduceEqDiff, reduceCtorEq]
        refine kJ_in ?_ ⟨h, rfl, rfl⟩
        exact To.mv [(0, 0)] (BaseR.refl hob) (by simp) (by decide) (by simp only [go_sem]; exact ⟨VM.refA (j := 0) (t := 0) rfl, vS, vS, vS⟩) ⟨⟨_, rfl, OM.box _ _ ⟨vS, trivial⟩⟩, trivial⟩
    ·rintro i1 _ hi1 hn1 as1 ob1 ⟨rfl, rfl⟩
     refine X_sr (lx_ok γ) ?_
     simp -implicitDefEqProofs only [go_sem, seval, f1, hi1]
     refine X_seq ?_
     refine X_cond (lx_ok γ) ?_
     simp -implicitDefEqProofs only [go_sem, seval, f1, hi1]
     have h := hk1 _ (.inl hn1)
     refine X_exit ?_
     try simp -implicitDefEqProofs only [go_sem, ↓reduceIte, Nat.reduceEqDiff, reduceCtorEq]
     refine kJ_in ?_ ⟨h, rfl, rfl⟩
     exact To.mv0 (BaseR.refl hob) (by simp) trivial
  ·rw [if_pos f1] at h
   refine X_cond (lx_ok γ) ?_
   simp -implicitDefEqProofs only [go_sem, seval, f1]
   refine X_sr (lx_ok γ) ?_
   simp -implicitDefEqProofs only [go_sem, seval, f1]
   obtain rfl := sI h
   refine X_ret ?_
   simp -implicitDefEqProofs only [go_sem, seval, f1]
   exact Rt.mv0 (BaseR.refl hob) (by simp) (vS)
 ·refine X_reg (lx_ok γ) ?_
  obtain ⟨x9, f14, h⟩ := bindE h
  simp -implicitDefEqProofs only [go_sem, seval]
  refine callV_eq (shape_within_ok γ _  f14) rfl rfl ?_
  cases f15 : x9
  ·rw [if_neg (nF f15)] at h
   simp -implicitDefEqProofs only [go_sem, seval, f15]
   refine kJ_in ?_ ⟨true, h, rfl, rfl⟩
   exact To.mv [(0, 0)] (BaseR.refl hob) (by simp) (by decide) (by simp only [go_sem]; exact ⟨VM.refA (j := 0) (t := 0) rfl, vS⟩) ⟨⟨_, rfl, OM.box _ _ ⟨vS, trivial⟩⟩, trivial⟩
  ·rw [if_pos f15] at h
   obtain ⟨x10, f16, h⟩ := bindE h
   obtain ⟨f17, f18, f19⟩ := ixL_some f16
   try simp only [Int.toNat_natCast, Int.reduceToNat] at f19
   cases f20 : (x10.Params != 0)
   ·rw [if_neg (nF f20)] at h
    simp -implicitDefEqProofs only [go_sem, seval, f15, f20, f18, f19]
    refine kJ_in ?_ ⟨(x10.Result != 0), h, rfl, rfl⟩
    exact To.mv [(0, 0)] (BaseR.refl hob) (by simp) (by decide) (by simp only [go_sem]; exact ⟨VM.refA (j := 0) (t := 0) rfl, vS⟩) ⟨⟨_, rfl, OM.box _ _ ⟨vS, trivial⟩⟩, trivial⟩
   ·rw [if_pos f20] at h
    simp -implicitDefEqProofs only [go_sem, seval, f15, f20, f18, f19]
    refine kJ_in ?_ ⟨true, h, rfl, rfl⟩
    exact To.mv [(0, 0)] (BaseR.refl hob) (by simp) (by decide) (by simp only [go_sem]; exact ⟨VM.refA (j := 0) (t := 0) rfl, vS⟩) ⟨⟨_, rfl, OM.box _ _ ⟨vS, trivial⟩⟩, trivial⟩
end Go.Pf
end
