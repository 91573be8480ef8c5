/- Each function computes what its plain one says, part 1 -/
import Derived.Test.YtmceiidhhpcjkaaDoorU1
import Derived.Test.YtmceiidhhpcjkaaDoorH1
set_option linter.all false
section
namespace Go.Pf
open Go Go.Ab Go.Pp
def e_Ins (x : Ins) : List Tr := [.lit (.int .i64 x.Op), .lit (.int .i64 x.D), .lit (.int .i64 x.A), .lit (.int .i64 x.B), .lit (.int .i64 x.N), .lit (.int .i64 x.M), .sl 1 false (List.map (eI .i64) x.Args)]
def e_Block (x : Block) : List Tr := [.sl 7 false (List.map e_Ins x.Code)]
def e_Func (x : Func) : List Tr := [.sl 1 false (List.map (eI .i64) x.Kinds), .sl 1 false (List.map (eI .i64) x.Base), .lit (.int .i64 x.Params), .lit (.int .i64 x.Result), .sl 1 false (List.map e_Block x.Blocks)]
def e_Prog (x : Prog) : List Tr := [.sl 5 false (List.map e_Func x.Funcs)]
def e_kind_state (x : kind_state) : List Tr := [.sl 1 false (List.map (eI .u64) x.set), .sl 1 false (List.map (eI .u64) x.fresh)]
def eL_Intu64 (x : List Int) : List Tr := [.sl 1 false (List.map (eI .u64) x)]
def m_kind_state (x : kind_state) : V := V.agg [V.tr (.sl 1 false (List.map (eI .u64) x.set)), V.tr (.sl 1 false (List.map (eI .u64) x.fresh))]
end Go.Pf
end
section
set_option maxRecDepth 100000
namespace Go.Pf
open Go Go.Ab Go.Pp Go.Proofs Go.Proofs.S08
attribute [local go_sem] Lxτ Lxγ gam0 gam1 Int.toNat_natCast tau3 eI eB eS e_Ins e_Block e_Func e_Prog e_kind_state eL_Intu64
set_option maxHeartbeats 1000000 in
theorem shape_within_ok (γ : GT) (ob : OT) {a0 : Int} {a1 : Int} {a2 : Int} {r : Bool} (h : shape_within a0 a1 a2 = some r) :
  Valid (Lx γ) 38 [vint .i64 a0, vint .i64 a1, vint .i64 a2] ob (vbool r) ob := by
 refine valid_X (lx_ok γ) (fn := Tryd.f38) (rs := [.tmp 6]) Tryd.func38 (by kernel_rfl) rfl rfl Tryd.ntmps38 rfl (by simp) fun hb hob => ?_
 rw [shape_within] at h
 refine X_sr (lx_ok γ) ?_
 simp -implicitDefEqProofs only [go_sem, seval]
 refine X_sr (lx_ok γ) ?_
 cases f1 : decide (a1 ≤ a0)
 ·rw [if_neg (nF f1)] at h
  simp -implicitDefEqProofs only [go_sem, seval, f1]
  obtain rfl := sI h
  refine X_ret ?_
  simp -implicitDefEqProofs only [go_sem, seval, f1]
  exact Rt.mv1 (BaseR.refl hob) (by simp) (vS)
 ·rw [if_pos f1] at h
  simp -implicitDefEqProofs only [go_sem, seval, f1]
  obtain rfl := sI h
  refine X_ret ?_
  simp -implicitDefEqProofs only [go_sem, seval, f1]
  exact Rt.mv1 (BaseR.refl hob) (by simp) (vS)
end Go.Pf
end
section
set_option maxRecDepth 100000
namespace Go.Pf
open Go Go.Ab Go.Pp Go.Proofs Go.Proofs.S08
attribute [local go_sem] Lxτ Lxγ gam0 gam1 Int.toNat_natCast tau3 tau4 tau25 tau27 tau33 tau35 tau36 tau38 eI eB eS e_Ins e_Block e_Func e_Prog e_kind_state eL_Intu64
set_option maxHeartbeats 1000000 in
theorem shape_kinds_ok (γ : GT) (ob : OT) {a0 : Func} {v0_0 : V} {v0_1 : V} {v0_4 : V} (hv0_0 : rdK (getO ob) 1 v0_0 = some (List.map (eI .i64) a0.Kinds)) (hv0_1 : rdK (getO ob) 1 v0_1 = some (List.map (eI .i64) a0.Base)) (hv0_4 : rdK (getO ob) 1 v0_4 = some (List.map e_Block a0.Blocks)) {r : Bool} (h : shape_kinds a0 = some r) :
  Valid (Lx γ) 50 [V.agg [v0_0, v0_1, vint .i64 a0.Params, vint .i64 a0.Result, v0_4]] ob (vbool r) ob := by
 refine valid_X (lx_ok γ) (fn := Tryd.f50) (rs := [.tmp 2]) Tryd.func50 (by kernel_rfl) rfl rfl Tryd.ntmps50 rfl (by simp) fun hb hob => ?_
 have hq := And.intro (rd4 hv0_0) (And.intro (rd4 hv0_1) (rd4 hv0_4))
 rw [shape_kinds] at h
 refine X_sr (lx_ok γ) ?_
 simp -implicitDefEqProofs only [go_sem, seval, hq]
 refine X_seq ?_
 refine X_seq ?_
 refine X_jq (J := fun as1 ob1 => ∃ (x2 : Bool), shape_kinds.j1 a0 x2 = some r ∧ [(1, V.ref ob.length 0), (18, vbool x2)] = as1 ∧ ob ++ [some (O.box [v0_0, v0_1, vint .i64 a0.Params, vint .i64 a0.Result, v0_4])] = ob1) ?_ ?_
 ·rintro as1 ob1 ⟨x2, h, rfl, rfl⟩
  rw [shape_kinds.j1] at h
  simp -implicitDefEqProofs only [go_sem, seval, hq]
  cases f1 : x2
  ·rw [if_neg (nF f1)] at h
   refine X_cond (lx_ok γ) ?_
   simp -implicitDefEqProofs only [go_sem, seval, f1, hq]
   refine X_skip ?_
   try simp -implicitDefEqProofs only [go_sem]
   refine X_seq ?_
   refine X_sr (lx_ok γ) ?_
   simp -implicitDefEqProofs only [go_sem, seval, f1, hq]
   refine X_jq (J := fun as1 ob1 => shape_kinds.k1 = some r ∧ [] = as1 ∧ ob = ob1) ?_ ?_
   ·rintro as1 ob1 ⟨h, rfl, rfl⟩
    rw [shape_kinds.k1] at h
    simp -implicitDefEqProofs only [go_sem, seval, f1, hq]
    refine X_sr (lx_ok γ) ?_
    simp -implicitDefEqProofs only [go_sem, seval, f1, hq]
    obtain rfl := sI h
    refine X_ret ?_
    simp -implicitDefEqProofs only [go_sem, seval, f1, hq]
    exact Rt.mv1 (BaseR.refl hob) (by simp) (vS)
   ·refine X_block ?_
    obtain ⟨lr1, hl1, hk1, hr1⟩ := aft2 h
    refine X_forN hl1 (fun (i1 : Nat) (s : Unit) as1 ob1 => [(1, V.ref ob.length 0), (20, v0_0), (21, vint .i64 (List.length a0.Kinds : Int)), (22, vint .i64 (i1 : Int))] = as1 ∧ ob ++ [some (O.box [v0_0, v0_1, vint .i64 a0.Params, vint .i64 a0.Result, v0_4])] = ob1) ⟨_, _, ?_, rfl, rfl⟩ ?_ ?_
    ·exact To.mv [(0, 0)] (BaseR.refl hob) (by simp) (by decide) (by simp only [go_sem]; exact ⟨VM.refA (j := 0) (t := 0) rfl, VM.self (by simpa using Bd.of_rdK hv0_0), vS, VM.eqv (by simp) (by simp)⟩) ⟨⟨_, rfl, OM.box _ _ ⟨VM.self (by simpa using Bd.of_rdK hv0_0), VM.self (by simpa using Bd.of_rdK hv0_1), vS, vS, VM.self (by simpa using Bd.of_rdK hv0_4), trivial⟩⟩, trivial⟩
    ·rintro i1 _ o1 hi1 hw1 h ho1 as1 ob1 ⟨rfl, rfl⟩
     rw [shape_kinds.b1] at h
     refine X_sr (lx_ok γ) ?_
     simp -implicitDefEqProofs only [go_sem, seval, f1, hi1, hq]
     refine X_seq ?_
     refine X_cond (lx_ok γ) ?_
     simp -implicitDefEqProofs only [go_sem, seval, f1, hi1, hq]
     refine X_skip ?_
     try simp -implicitDefEqProofs only [go_sem]
     refine X_seq ?_
     refine X_block ?_
     refine X_sr (lx_ok γ) ?_
     obtain ⟨x4, f2, h⟩ := bindE h
     obtain ⟨f3, f4⟩ := ixL_nat f2
     have f5 : (0 : Int) ≤ (i1 : Int) := Int.natCast_nonneg _
     simp -implicitDefEqProofs only [go_sem, seval, f1, hi1, hq, f3, f4, f5]
     refine X_sr (lx_ok γ) ?_
     obtain ⟨x5, f6, h⟩ := bindE h
     obtain ⟨f7, f8⟩ := ixL_nat f6
     have f9 : (0 : Int) ≤ (i1 : Int) := Int.natCast_nonneg _
     simp -implicitDefEqProofs only [go_sem, seval, f1, hi1, hq, f7, f8, f9]
     refine X_block ?_
     refine X_seq ?_
     refine X_jq (J := fun as1 ob1 => ∃ (x7 : Bool), shape_kinds.j2 a0 x4 x5 x7 = some o1 ∧ [(1, V.ref ob.length 0), (4, vint .i64 x4), (5, vint .i64 x5), (20, v0_0), (21, vint .i64 (List.length a0.Kinds : Int)), (22, vint .i64 (i1 : Int)), (32, vbool x7)] = as1 ∧ ob ++ [some (O.box [v0_0, v0_1, vint .i64 a0.Params, vint .i64 a0.Result, v0_4])] = ob1) ?_ ?_
     ·rintro as1 ob1 ⟨x7, h, rfl, rfl⟩
      rw [shape_kinds.j2] at h
      simp -implicitDefEqProofs only [go_sem, seval, f1, hi1, hq]
      cases f10 : x7
      ·rw [if_neg (nF f10)] at h
       refine X_cond (lx_ok γ) ?_
       simp -implicitDefEqProofs only [go_sem, seval, f1, hi1, f10, hq]
       refine X_sr (lx_ok γ) ?_
       cases f11 : (x4 != 2)
       ·rw [if_neg (nF f11)] at h
        obtain ⟨x8, f12, h⟩ := bindE h
        simp -implicitDefEqProofs only [go_sem, seval, f1, hi1, f10, f11, hq]
        refine callV_eq (shape_within_ok γ _  f12) rfl rfl ?_
        cases f13 : x8
        ·rw [if_neg (nF f13)] at h
         simp -implicitDefEqProofs only [go_sem, seval, f1, hi1, f10, f11, f13, hq]
         refine X_condT (lx_ok γ) rfl ?_
         refine X_sr (lx_ok γ) ?_
         simp -implicitDefEqProofs only [go_sem, seval, f1, hi1, f10, f11, f13, hq]
         obtain rfl := sI h
         have h := hr1 _ (ho1 (fun _ hs => nomatch hs))
         obtain rfl := sI h
         refine X_ret ?_
         simp -implicitDefEqProofs only [go_sem, seval, f1, hi1, f10, f11, f13, hq]
         exact Rt.mv0 (BaseR.refl hob) (by simp) (vS)
        ·rw [if_pos f13] at h
         obtain ⟨x9, f14, h⟩ := bindE h
         obtain ⟨f15, f16, f17⟩ := ixL_some f14
         try simp only [Int.toNat_natCast, Int.reduceToNat] at f17
         simp -implicitDefEqProofs only [go_sem, seval, f1, hi1, f10, f11, f13, hq, f15, f16, f17]
         cases f18 : (x9 != 1)
         ·rw [if_neg (nF f18)] at h
          refine X_cond (lx_ok γ) ?_
          simp -implicitDefEqProofs only [go_sem, seval, f1, hi1, f10, f11, f13, f18, hq, f15, f16, f17]
          refine X_skip ?_
          try simp -implicitDefEqProofs only [go_sem]
          refine X_reg (lx_ok γ) ?_
          obtain rfl := sI h
          simp -implicitDefEqProofs only [go_sem, seval, f1, hi1, f10, f11, f13, f18, hq]
          refine kR_in rfl ?_ ⟨rfl, rfl⟩
          exact To.mv [(0, 0)] (BaseR.refl hob) (by simp) (by decide) (by simp only [go_sem]; exact ⟨VM.refA (j := 0) (t := 0) rfl, VM.self (by simpa using Bd.of_rdK hv0_0), vS, VM.eqv (by rw [hw1]) (by simp)⟩) ⟨⟨_, rfl, OM.box _ _ ⟨VM.self (by simpa using Bd.of_rdK hv0_0), VM.self (by simpa using Bd.of_rdK hv0_1), vS, vS, VM.self (by simpa using Bd.of_rdK hv0_4), trivial⟩⟩, trivial⟩
         ·rw [if_pos f18] at h
          refine X_cond (lx_ok γ) ?_
          simp -implicitDefEqProofs only [go_sem, seval, f1, hi1, f10, f11, f13, f18, hq, f15, f16, f17]
          refine X_sr (lx_ok γ) ?_
          simp -implicitDefEqProofs only [go_sem, seval, f1, hi1, f10, f11, f13, f18, hq]
          obtain rfl := sI h
          have h := hr1 _ (ho1 (fun _ hs => nomatch hs))
          obtain rfl := sI h
          refine X_ret ?_
          simp -implicitDefEqProofs only [go_sem, seval, f1, hi1, f10, f11, f13, f18, hq]
          exact Rt.mv0 (BaseR.refl hob) (by simp) (vS)
       ·rw [if_pos f11] at h
        simp -implicitDefEqProofs only [go_sem, seval, f1, hi1, f10, f11, hq]
        refine X_condT (lx_ok γ) rfl ?_
        refine X_sr (lx_ok γ) ?_
        simp -implicitDefEqProofs only [go_sem, seval, f1, hi1, f10, f11, hq]
        obtain rfl := sI h
        have h := hr1 _ (ho1 (fun _ hs => nomatch hs))
        obtain rfl := sI h
        refine X_ret ?_
        simp -implicitDefEqProofs only [go_sem, seval, f1, hi1, f10, f11, hq]
        exact Rt.mv0 (BaseR.refl hob) (by simp) (vS)
      ·rw [if_pos f10] at h
       refine X_cond (lx_ok γ) ?_
       simp -implicitDefEqProofs only [go_sem, seval, f1, hi1, f10, hq]
       refine X_sr (lx_ok γ) ?_
       simp -implicitDefEqProofs only [go_sem, seval, f1, hi1, f10, hq]
       cases f19 : (x5 != (-1))
       ·rw [if_neg (nF f19)] at h
        refine X_cond (lx_ok γ) ?_
        simp -implicitDefEqProofs only [go_sem, seval, f1, hi1, f10, f19, hq]
        refine X_skip ?_
        try simp -implicitDefEqProofs only [go_sem]
        refine X_reg (lx_ok γ) ?_
        obtain rfl := sI h
        simp -implicitDefEqProofs only [go_sem, seval, f1, hi1, f10, f19, hq]
        refine kR_in rfl ?_ ⟨rfl, rfl⟩
        exact To.mv [(0, 0)] (BaseR.refl hob) (by simp) (by decide) (by simp only [go_sem]; exact ⟨VM.refA (j := 0) (t := 0) rfl, VM.self (by simpa using Bd.of_rdK hv0_0), vS, VM.eqv (by rw [hw1]) (by simp)⟩) ⟨⟨_, rfl, OM.box _ _ ⟨VM.self (by simpa using Bd.of_rdK hv0_0), VM.self (by simpa using Bd.of_rdK hv0_1), vS, vS, VM.self (by simpa using Bd.of_rdK hv0_4), trivial⟩⟩, trivial⟩
       ·rw [if_pos f19] at h
        refine X_cond (lx_ok γ) ?_
        simp -implicitDefEqProofs only [go_sem, seval, f1, hi1, f10, f19, hq]
        refine X_sr (lx_ok γ) ?_
        simp -implicitDefEqProofs only [go_sem, seval, f1, hi1, f10, f19, hq]
        obtain rfl := sI h
        have h := hr1 _ (ho1 (fun _ hs => nomatch hs))
        obtain rfl := sI h
        refine X_ret ?_
        simp -implicitDefEqProofs only [go_sem, seval, f1, hi1, f10, f19, hq]
        exact Rt.mv0 (BaseR.refl hob) (by simp) (vS)
     ·refine X_reg (lx_ok γ) ?_
      cases f20 : (x4 == 0)
      ·rw [if_neg (nF f20)] at h
       simp -implicitDefEqProofs only [go_sem, seval, f1, hi1, f20, hq]
       refine kJ_in ?_ ⟨(x4 == 1), h, rfl, rfl⟩
       exact To.mv [(0, 0)] (BaseR.refl hob) (by simp) (by decide) (by simp only [go_sem]; exact ⟨VM.refA (j := 0) (t := 0) rfl, vS, vS, VM.self (by simpa using Bd.of_rdK hv0_0), vS, vS, vS⟩) ⟨⟨_, rfl, OM.box _ _ ⟨VM.self (by simpa using Bd.of_rdK hv0_0), VM.self (by simpa using Bd.of_rdK hv0_1), vS, vS, VM.self (by simpa using Bd.of_rdK hv0_4), trivial⟩⟩, trivial⟩
      ·rw [if_pos f20] at h
       simp -implicitDefEqProofs only [go_sem, seval, f1, hi1, f20, hq]
       refine kJ_in ?_ ⟨true, h, rfl, rfl⟩
       exact To.mv [(0, 0)] (BaseR.refl hob) (by simp) (by decide) (by simp only [go_sem]; exact ⟨VM.refA (j := 0) (t := 0) rfl, vS, vS, VM.self (by simpa using Bd.of_rdK hv0_0), vS, vS, vS⟩) ⟨⟨_, rfl, OM.box _ _ ⟨VM.self (by simpa using Bd.of_rdK hv0_0), VM.self (by simpa using Bd.of_rdK hv0_1), vS, vS, VM.self (by simpa using Bd.of_rdK hv0_4), trivial⟩⟩, trivial⟩
    ·rintro i1 _ hi1 hn1 as1 ob1 ⟨rfl, rfl⟩
     refine X_sr (lx_ok γ) ?_
     simp -implicitDefEqProofs only [go_sem, seval, f1, hi1, hq]
     refine X_seq ?_
     refine X_cond (lx_ok γ) ?_
     simp -implicitDefEqProofs only [go_sem, seval, f1, hi1, hq]
     have h := hk1 _ (.inl hn1)
     refine X_exit ?_
     try simp -implicitDefEqProofs only [go_sem, ↓reduceIte, Nat.reduceEqDiff, reduceCtorEq]
     refine kJ_in ?_ ⟨h, rfl, rfl⟩
     exact To.mv0 (BaseR.refl hob) (by simp) trivial
  ·rw [if_pos f1] at h
   refine X_cond (lx_ok γ) ?_
   simp -implicitDefEqProofs only [go_sem, seval, f1, hq]
   refine X_sr (lx_ok γ) ?_
   simp -implicitDefEqProofs only [go_sem, seval, f1, hq]
   obtain rfl := sI h
   refine X_ret ?_
   simp -implicitDefEqProofs only [go_sem, seval, f1, hq]
   exact Rt.mv0 (BaseR.refl hob) (by simp) (vS)
 ·refine X_reg (lx_ok γ) ?_
  cases f21 : decide (48 < (List.length a0.Kinds : Int))
  ·rw [if_neg (nF f21)] at h
   simp -implicitDefEqProofs only [go_sem, seval, f21, hq]
   refine kJ_in ?_ ⟨((List.length a0.Base : Int) != (List.length a0.Kinds : Int)), h, rfl, rfl⟩
   exact To.mv [(0, 0)] (BaseR.refl hob) (by simp) (by decide) (by simp only [go_sem]; exact ⟨VM.refA (j := 0) (t := 0) rfl, vS⟩) ⟨⟨_, rfl, OM.box _ _ ⟨VM.self (by simpa using Bd.of_rdK hv0_0), VM.self (by simpa using Bd.of_rdK hv0_1), vS, vS, VM.self (by simpa using Bd.of_rdK hv0_4), trivial⟩⟩, trivial⟩
  ·rw [if_pos f21] at h
   simp -implicitDefEqProofs only [go_sem, seval, f21, hq]
   refine kJ_in ?_ ⟨true, h, rfl, rfl⟩
   exact To.mv [(0, 0)] (BaseR.refl hob) (by simp) (by decide) (by simp only [go_sem]; exact ⟨VM.refA (j := 0) (t := 0) rfl, vS⟩) ⟨⟨_, rfl, OM.box _ _ ⟨VM.self (by simpa using Bd.of_rdK hv0_0), VM.self (by simpa using Bd.of_rdK hv0_1), vS, vS, VM.self (by simpa using Bd.of_rdK hv0_4), trivial⟩⟩, trivial⟩
end Go.Pf
end
section
set_option maxRecDepth 100000
namespace Go.Pf
open Go Go.Ab Go.Pp Go.Proofs Go.Proofs.S08
attribute [local go_sem] Lxτ Lxγ gam0 gam1 Int.toNat_natCast tau3 tau25 eI eB eS e_Ins e_Block e_Func e_Prog e_kind_state eL_Intu64
set_option maxHeartbeats 1000000 in
theorem slices_Index_int_ok (γ : GT) (ob : OT) {a0 : List Int} {v0 : V} {a1 : Int} (hv0 : rdK (getO ob) 1 v0 = some (List.map (eI .i64) a0)) {r : Int} (h : slices_Index_int a0 a1 = some r) :
  Valid (Lx γ) 72 [v0, vint .i64 a1] ob (vint .i64 r) ob := by
 refine valid_X (lx_ok γ) (fn := Tryd.f72) (rs := [.tmp 4]) Tryd.func72 (by kernel_rfl) rfl rfl Tryd.ntmps72 rfl (by simp) fun hb hob => ?_
 have hq := rd4 hv0
 rw [slices_Index_int] at h
 refine X_sr (lx_ok γ) ?_
 simp -implicitDefEqProofs only [go_sem, seval, hq]
 refine X_seq ?_
 refine X_sr (lx_ok γ) ?_
 simp -implicitDefEqProofs only [go_sem, seval, hq]
 refine X_jq (J := fun as1 ob1 => slices_Index_int.k1 = some r ∧ [] = as1 ∧ ob = ob1) ?_ ?_
 ·rintro as1 ob1 ⟨h, rfl, rfl⟩
  rw [slices_Index_int.k1] at h
  simp -implicitDefEqProofs only [go_sem, seval, hq]
  refine X_sr (lx_ok γ) ?_
  simp -implicitDefEqProofs only [go_sem, seval, hq]
  obtain rfl := sI h
  refine X_ret ?_
  simp -implicitDefEqProofs only [go_sem, seval, hq]
  exact Rt.mv1 (BaseR.refl hob) (by simp) (vS)
 ·refine X_block ?_
  obtain ⟨lr1, hl1, hk1, hr1⟩ := aft2 h
  refine X_forN hl1 (fun (i1 : Nat) (s : Unit) as1 ob1 => [(0, v0), (1, vint .i64 a1), (7, vint .i64 (List.length a0 : Int)), (8, vint .i64 (i1 : Int))] = as1 ∧ ob = ob1) ⟨_, _, ?_, rfl, rfl⟩ ?_ ?_
  ·exact To.mv1 (BaseR.refl hob) (by simp) (by simp only [go_sem]; exact ⟨VM.self (by simpa using Bd.of_rdK hv0), vS, vS, VM.eqv (by simp) (by simp)⟩)
  ·rintro i1 _ o1 hi1 hw1 h ho1 as1 ob1 ⟨rfl, rfl⟩
   rw [slices_Index_int.b1] at h
   refine X_sr (lx_ok γ) ?_
   simp -implicitDefEqProofs only [go_sem, seval, hi1, hq]
   refine X_seq ?_
   refine X_cond (lx_ok γ) ?_
   simp -implicitDefEqProofs only [go_sem, seval, hi1, hq]
   refine X_skip ?_
   try simp -implicitDefEqProofs only [go_sem]
   refine X_seq ?_
   refine X_block ?_
   refine X_sr (lx_ok γ) ?_
   simp -implicitDefEqProofs only [go_sem, seval, hi1, hq]
   refine X_sr (lx_ok γ) ?_
   obtain ⟨x2, f1, h⟩ := bindE h
   obtain ⟨f2, f3⟩ := ixL_nat f1
   have f4 : (0 : Int) ≤ (i1 : Int) := Int.natCast_nonneg _
   simp -implicitDefEqProofs only [go_sem, seval, hi1, hq, f2, f3, f4]
   cases f5 : (a1 == x2)
   ·rw [if_neg (nF f5)] at h
    refine X_cond (lx_ok γ) ?_
    simp -implicitDefEqProofs only [go_sem, seval, hi1, f5, hq, f2, f3, f4]
    refine X_skip ?_
    try simp -implicitDefEqProofs only [go_sem]
    refine X_reg (lx_ok γ) ?_
    obtain rfl := sI h
    simp -implicitDefEqProofs only [go_sem, seval, hi1, f5, hq]
    refine kR_in rfl ?_ ⟨rfl, rfl⟩
    exact To.mv1 (BaseR.refl hob) (by simp) (by simp only [go_sem]; exact ⟨VM.self (by simpa using Bd.of_rdK hv0), vS, vS, VM.eqv (by rw [hw1]) (by simp)⟩)
   ·rw [if_pos f5] at h
    refine X_cond (lx_ok γ) ?_
    simp -implicitDefEqProofs only [go_sem, seval, hi1, f5, hq, f2, f3, f4]
    refine X_sr (lx_ok γ) ?_
    simp -implicitDefEqProofs only [go_sem, seval, hi1, f5, hq]
    obtain rfl := sI h
    have h := hr1 _ (ho1 (fun _ hs => nomatch hs))
    obtain rfl := sI h
    refine X_ret ?_
    simp -implicitDefEqProofs only [go_sem, seval, hi1, f5, hq]
    exact Rt.mv1 (BaseR.refl hob) (by simp) (vS)
  ·rintro i1 _ hi1 hn1 as1 ob1 ⟨rfl, rfl⟩
   refine X_sr (lx_ok γ) ?_
   simp -implicitDefEqProofs only [go_sem, seval, hi1, hq]
   refine X_seq ?_
   refine X_cond (lx_ok γ) ?_
   simp -implicitDefEqProofs only [go_sem, seval, hi1, hq]
   have h := hk1 _ (.inl hn1)
   refine X_exit ?_
   try simp -implicitDefEqProofs only [go_sem, ↓reduceIte, Nat.reduceEqDiff, reduceCtorEq]
   refine kJ_in ?_ ⟨h, rfl, rfl⟩
   exact To.mv1 (BaseR.refl hob) (by simp) trivial
end Go.Pf
end
section
set_option maxRecDepth 100000
namespace Go.Pf
open Go Go.Ab Go.Pp Go.Proofs Go.Proofs.S08
attribute [local go_sem] Lxτ Lxγ gam0 gam1 Int.toNat_natCast tau3 tau25 eI eB eS e_Ins e_Block e_Func e_Prog e_kind_state eL_Intu64
set_option maxHeartbeats 1000000 in
theorem slices_Contains_int_ok (γ : GT) (ob : OT) {a0 : List Int} {v0 : V} {a1 : Int} (hv0 : rdK (getO ob) 1 v0 = some (List.map (eI .i64) a0)) {r : Bool} (h : slices_Contains_int a0 a1 = some r) :
  Valid (Lx γ) 51 [v0, vint .i64 a1] ob (vbool r) ob := by
 refine valid_X (lx_ok γ) (fn := Tryd.f51) (rs := [.tmp 4]) Tryd.func51 (by kernel_rfl) rfl rfl Tryd.ntmps51 rfl (by simp) fun hb hob => ?_
 have hq := rd4 hv0
 rw [slices_Contains_int] at h
 refine X_sr (lx_ok γ) ?_
 simp -implicitDefEqProofs only [go_sem, seval, hq]
 refine X_sr (lx_ok γ) ?_
 obtain ⟨x1, f1, h⟩ := bindE h
 simp -implicitDefEqProofs only [go_sem, seval, hq]
 refine callV_eq (slices_Index_int_ok γ _ (by first | exact rdK_app hv0 | exact hv0) f1) rfl rfl ?_
 simp -implicitDefEqProofs only [go_sem, seval, hq]
 obtain rfl := sI h
 refine X_ret ?_
 simp -implicitDefEqProofs only [go_sem, seval, hq]
 exact Rt.mv1 (BaseR.refl hob) (by simp) (vS)
end Go.Pf
end
section
set_option maxRecDepth 100000
namespace Go.Pf
open Go Go.Ab Go.Pp Go.Proofs Go.Proofs.S08
attribute [local go_sem] Lxτ Lxγ gam0 gam1 Int.toNat_natCast tau3 tau25 tau27 tau33 tau36 tau38 eI eB eS e_Ins e_Block e_Func e_Prog e_kind_state eL_Intu64
set_option maxHeartbeats 1000000 in
theorem slices_IndexFunc_Block_ok (γ : GT) (ob : OT) {a0 : List Block} {v0 : V} {a1 : Block → Option (Bool)} {w1 : V} (hv0 : rdK (getO ob) 1 v0 = some (List.map e_Block a0)) (hf1 : ∀ (ob1 : OT), ob <+: ob1 → ∀ (y0 : Block) (r : Bool), a1 y0 = some r → FnV (Lx γ) w1 [V.agg [V.tr (.sl 7 false (List.map e_Ins y0.Code))]] ob1 (vbool r) ob1) {r : Int} (h : slices_IndexFunc_Block a0 a1 = some r) :
  Valid (Lx γ) 73 [v0, w1] ob (vint .i64 r) ob := by
 refine valid_X (lx_ok γ) (fn := Tryd.f73) (rs := [.tmp 4]) Tryd.func73 (by kernel_rfl) rfl rfl Tryd.ntmps73 rfl (by simp) fun hb hob => ?_
 have hq := rd4 hv0
 rw [slices_IndexFunc_Block] at h
 refine X_sr (lx_ok γ) ?_
 simp -implicitDefEqProofs only [go_sem, seval, hq]
 refine X_seq ?_
 refine X_sr (lx_ok γ) ?_
 simp -implicitDefEqProofs only [go_sem, seval, hq]
 refine X_jq (J := fun as1 ob1 => slices_IndexFunc_Block.k1 = some r ∧ [] = as1 ∧ ob = ob1) ?_ ?_
 ·rintro as1 ob1 ⟨h, rfl, rfl⟩
  rw [slices_IndexFunc_Block.k1] at h
  simp -implicitDefEqProofs only [go_sem, seval, hq]
  refine X_sr (lx_ok γ) ?_
  simp -implicitDefEqProofs only [go_sem, seval, hq]
  obtain rfl := sI h
  refine X_ret ?_
  simp -implicitDefEqProofs only [go_sem, seval, hq]
  exact Rt.mv1 (BaseR.refl hob) (by simp) (vS)
 ·refine X_block ?_
  obtain ⟨lr1, hl1, hk1, hr1⟩ := aft2 h
  refine X_forN hl1 (fun (i1 : Nat) (s : Unit) as1 ob1 => [(0, v0), (1, w1), (7, vint .i64 (List.length a0 : Int)), (8, vint .i64 (i1 : Int))] = as1 ∧ ob = ob1) ⟨_, _, ?_, rfl, rfl⟩ ?_ ?_
  ·exact To.mv1 (BaseR.refl hob) (by simp) (by simp only [go_sem]; exact ⟨VM.self (by simpa using Bd.of_rdK hv0), VM.self (by simpa using hb w1 (by simp)), vS, VM.eqv (by simp) (by simp)⟩)
  ·rintro i1 _ o1 hi1 hw1 h ho1 as1 ob1 ⟨rfl, rfl⟩
   rw [slices_IndexFunc_Block.b1] at h
   refine X_sr (lx_ok γ) ?_
   simp -implicitDefEqProofs only [go_sem, seval, hi1, hq]
   refine X_seq ?_
   refine X_cond (lx_ok γ) ?_
   simp -implicitDefEqProofs only [go_sem, seval, hi1, hq]
   refine X_skip ?_
   try simp -implicitDefEqProofs only [go_sem]
   refine X_seq ?_
   refine X_block ?_
   refine X_sr (lx_ok γ) ?_
   simp -implicitDefEqProofs only [go_sem, seval, hi1, hq]
   refine X_sr (lx_ok γ) ?_
   obtain ⟨x2, f1, h⟩ := bindE h
   obtain ⟨f2, f3⟩ := ixL_nat f1
   have f4 : (0 : Int) ≤ (i1 : Int) := Int.natCast_nonneg _
   obtain ⟨x3, f5, h⟩ := bindE h
   simp -implicitDefEqProofs only [go_sem, seval, hi1, hq, f2, f3, f4]
   refine callV_fn (hf1 _ List.prefix_rfl _ _ f5) rfl rfl ?_
   simp -implicitDefEqProofs only [go_sem, seval, hi1, hq, f2, f3, f4]
   cases f6 : x3
   ·rw [if_neg (nF f6)] at h
    refine X_cond (lx_ok γ) ?_
    simp -implicitDefEqProofs only [go_sem, seval, hi1, f6, hq, f2, f3, f4]
    refine X_skip ?_
    try simp -implicitDefEqProofs only [go_sem]
    refine X_reg (lx_ok γ) ?_
    obtain rfl := sI h
    simp -implicitDefEqProofs only [go_sem, seval, hi1, f6, hq]
    refine kR_in rfl ?_ ⟨rfl, rfl⟩
    exact To.mv1 (BaseR.refl hob) (by simp) (by simp only [go_sem]; exact ⟨VM.self (by simpa using Bd.of_rdK hv0), VM.self (by simpa using hb w1 (by simp)), vS, VM.eqv (by rw [hw1]) (by simp)⟩)
   ·rw [if_pos f6] at h
    refine X_cond (lx_ok γ) ?_
    simp -implicitDefEqProofs only [go_sem, seval, hi1, f6, hq, f2, f3, f4]
    refine X_sr (lx_ok γ) ?_
    simp -implicitDefEqProofs only [go_sem, seval, hi1, f6, hq]
    obtain rfl := sI h
    have h := hr1 _ (ho1 (fun _ hs => nomatch hs))
    obtain rfl := sI h
    refine X_ret ?_
    simp -implicitDefEqProofs only [go_sem, seval, hi1, f6, hq]
    exact Rt.mv1 (BaseR.refl hob) (by simp) (vS)
  ·rintro i1 _ hi1 hn1 as1 ob1 ⟨rfl, rfl⟩
   refine X_sr (lx_ok γ) ?_
   simp -implicitDefEqProofs only [go_sem, seval, hi1, hq]
   refine X_seq ?_
   refine X_cond (lx_ok γ) ?_
   simp -implicitDefEqProofs only [go_sem, seval, hi1, hq]
   have h := hk1 _ (.inl hn1)
   refine X_exit ?_
   try simp -implicitDefEqProofs only [go_sem, ↓reduceIte, Nat.reduceEqDiff, reduceCtorEq]
   refine kJ_in ?_ ⟨h, rfl, rfl⟩
   exact To.mv1 (BaseR.refl hob) (by simp) trivial
end Go.Pf
end
section
set_option maxRecDepth 100000
namespace Go.Pf
open Go Go.Ab Go.Pp Go.Proofs Go.Proofs.S08
attribute [local go_sem] Lxτ Lxγ gam0 gam1 Int.toNat_natCast tau3 tau25 tau27 tau33 tau36 tau38 tau78 eI eB eS e_Ins e_Block e_Func e_Prog e_kind_state eL_Intu64
set_option maxHeartbeats 1000000 in
theorem slices_ContainsFunc_Block_ok (γ : GT) (ob : OT) {a0 : List Block} {v0 : V} {a1 : Block → Option (Bool)} {w1 : V} (hv0 : rdK (getO ob) 1 v0 = some (List.map e_Block a0)) (hf1 : ∀ (ob1 : OT), ob <+: ob1 → ∀ (y0 : Block) (r : Bool), a1 y0 = some r → FnV (Lx γ) w1 [V.agg [V.tr (.sl 7 false (List.map e_Ins y0.Code))]] ob1 (vbool r) ob1) {r : Bool} (h : slices_ContainsFunc_Block a0 a1 = some r) :
  Valid (Lx γ) 52 [v0, w1] ob (vbool r) ob := by
 refine valid_X (lx_ok γ) (fn := Tryd.f52) (rs := [.tmp 4]) Tryd.func52 (by kernel_rfl) rfl rfl Tryd.ntmps52 rfl (by simp) fun hb hob => ?_
 have hq := rd4 hv0
 rw [slices_ContainsFunc_Block] at h
 refine X_sr (lx_ok γ) ?_
 simp -implicitDefEqProofs only [go_sem, seval, hq]
 refine X_sr (lx_ok γ) ?_
 obtain ⟨x1, f1, h⟩ := bindE h
 simp -implicitDefEqProofs only [go_sem, seval, hq]
 refine callV_eq (slices_IndexFunc_Block_ok γ _ (by first | exact rdK_app hv0 | exact hv0) hf1 f1) rfl rfl ?_
 simp -implicitDefEqProofs only [go_sem, seval, hq]
 obtain rfl := sI h
 refine X_ret ?_
 simp -implicitDefEqProofs only [go_sem, seval, hq]
 exact Rt.mv1 (BaseR.refl hob) (by simp) (vS)
end Go.Pf
end
section
set_option maxRecDepth 100000
namespace Go.Pf
open Go Go.Ab Go.Pp Go.Proofs Go.Proofs.S08
attribute [local go_sem] Lxτ Lxγ gam0 gam1 Int.toNat_natCast tau3 tau25 tau27 tau36 eI eB eS e_Ins e_Block e_Func e_Prog e_kind_state eL_Intu64
set_option maxHeartbeats 1000000 in
theorem slices_IndexFunc_Ins_ok (γ : GT) (ob : OT) {a0 : List Ins} {v0 : V} {a1 : Ins → Option (Bool)} {w1 : V} (hv0 : rdK (getO ob) 7 v0 = some (List.map e_Ins a0)) (hf1 : ∀ (ob1 : OT), ob <+: ob1 → ∀ (y0 : Ins) (r : Bool), a1 y0 = some r → FnV (Lx γ) w1 [V.agg [vint .i64 y0.Op, vint .i64 y0.D, vint .i64 y0.A, vint .i64 y0.B, vint .i64 y0.N, vint .i64 y0.M, V.tr (.sl 1 false (List.map (eI .i64) y0.Args))]] ob1 (vbool r) ob1) {r : Int} (h : slices_IndexFunc_Ins a0 a1 = some r) :
  Valid (Lx γ) 55 [v0, w1] ob (vint .i64 r) ob := by
 refine valid_X (lx_ok γ) (fn := Tryd.f55) (rs := [.tmp 4]) Tryd.func55 (by kernel_rfl) rfl rfl Tryd.ntmps55 rfl (by simp) fun hb hob => ?_
 have hq := rd4 hv0
 rw [slices_IndexFunc_Ins] at h
 refine X_sr (lx_ok γ) ?_
 simp -implicitDefEqProofs only [go_sem, seval, hq]
 refine X_seq ?_
 refine X_sr (lx_ok γ) ?_
 simp -implicitDefEqProofs only [go_sem, seval, hq]
 refine X_jq (J := fun as1 ob1 => slices_IndexFunc_Ins.k1 = some r ∧ [] = as1 ∧ ob = ob1) ?_ ?_
 ·rintro as1 ob1 ⟨h, rfl, rfl⟩
  rw [slices_IndexFunc_Ins.k1] at h
  simp -implicitDefEqProofs only [go_sem, seval, hq]
  refine X_sr (lx_ok γ) ?_
  simp -implicitDefEqProofs only [go_sem, seval, hq]
  obtain rfl := sI h
  refine X_ret ?_
  simp -implicitDefEqProofs only [go_sem, seval, hq]
  exact Rt.mv1 (BaseR.refl hob) (by simp) (vS)
 ·refine X_block ?_
  obtain ⟨lr1, hl1, hk1, hr1⟩ := aft2 h
  refine X_forN hl1 (fun (i1 : Nat) (s : Unit) as1 ob1 => [(0, v0), (1, w1), (7, vint .i64 (List.length a0 : Int)), (8, vint .i64 (i1 : Int))] = as1 ∧ ob = ob1) ⟨_, _, ?_, rfl, rfl⟩ ?_ ?_
  ·exact To.mv1 (BaseR.refl hob) (by simp) (by simp only [go_sem]; exact ⟨VM.self (by simpa using Bd.of_rdK hv0), VM.self (by simpa using hb w1 (by simp)), vS, VM.eqv (by simp) (by simp)⟩)
  ·rintro i1 _ o1 hi1 hw1 h ho1 as1 ob1 ⟨rfl, rfl⟩
   rw [slices_IndexFunc_Ins.b1] at h
   refine X_sr (lx_ok γ) ?_
   simp -implicitDefEqProofs only [go_sem, seval, hi1, hq]
   refine X_seq ?_
   refine X_cond (lx_ok γ) ?_
   simp -implicitDefEqProofs only [go_sem, seval, hi1, hq]
   refine X_skip ?_
   try simp -implicitDefEqProofs only [go_sem]
   refine X_seq ?_
   refine X_block ?_
   refine X_sr (lx_ok γ) ?_
   simp -implicitDefEqProofs only [go_sem, seval, hi1, hq]
   refine X_sr (lx_ok γ) ?_
   obtain ⟨x2, f1, h⟩ := bindE h
   obtain ⟨f2, f3⟩ := ixL_nat f1
   have f4 : (0 : Int) ≤ (i1 : Int) := Int.natCast_nonneg _
   obtain ⟨x3, f5, h⟩ := bindE h
   simp -implicitDefEqProofs only [go_sem, seval, hi1, hq, f2, f3, f4]
   refine callV_fn (hf1 _ List.prefix_rfl _ _ f5) rfl rfl ?_
   simp -implicitDefEqProofs only [go_sem, seval, hi1, hq, f2, f3, f4]
   cases f6 : x3
   ·rw [if_neg (nF f6)] at h
    refine X_cond (lx_ok γ) ?_
    simp -implicitDefEqProofs only [go_sem, seval, hi1, f6, hq, f2, f3, f4]
    refine X_skip ?_
    try simp -implicitDefEqProofs only [go_sem]
    refine X_reg (lx_ok γ) ?_
    obtain rfl := sI h
    simp -implicitDefEqProofs only [go_sem, seval, hi1, f6, hq]
    refine kR_in rfl ?_ ⟨rfl, rfl⟩
    exact To.mv1 (BaseR.refl hob) (by simp) (by simp only [go_sem]; exact ⟨VM.self (by simpa using Bd.of_rdK hv0), VM.self (by simpa using hb w1 (by simp)), vS, VM.eqv (by rw [hw1]) (by simp)⟩)
   ·rw [if_pos f6] at h
    refine X_cond (lx_ok γ) ?_
    simp -implicitDefEqProofs only [go_sem, seval, hi1, f6, hq, f2, f3, f4]
    refine X_sr (lx_ok γ) ?_
    simp -implicitDefEqProofs only [go_sem, seval, hi1, f6, hq]
    obtain rfl := sI h
    have h := hr1 _ (ho1 (fun _ hs => nomatch hs))
    obtain rfl := sI h
    refine X_ret ?_
    simp -implicitDefEqProofs only [go_sem, seval, hi1, f6, hq]
    exact Rt.mv1 (BaseR.refl hob) (by simp) (vS)
  ·rintro i1 _ hi1 hn1 as1 ob1 ⟨rfl, rfl⟩
   refine X_sr (lx_ok γ) ?_
   simp -implicitDefEqProofs only [go_sem, seval, hi1, hq]
   refine X_seq ?_
   refine X_cond (lx_ok γ) ?_
   simp -implicitDefEqProofs only [go_sem, seval, hi1, hq]
   have h := hk1 _ (.inl hn1)
   refine X_exit ?_
   try simp -implicitDefEqProofs only [go_sem, ↓reduceIte, Nat.reduceEqDiff, reduceCtorEq]
   refine kJ_in ?_ ⟨h, rfl, rfl⟩
   exact To.mv1 (BaseR.refl hob) (by simp) trivial
end Go.Pf
end
section
set_option maxRecDepth 100000
namespace Go.Pf
open Go Go.Ab Go.Pp Go.Proofs Go.Proofs.S08
attribute [local go_sem] Lxτ Lxγ gam0 gam1 Int.toNat_natCast tau3 eI eB eS e_Ins e_Block e_Func e_Prog e_kind_state eL_Intu64
set_option maxHeartbeats 1000000 in
theorem shape_Last_ok (γ : GT) (ob : OT) {a0 : Int} {r : Bool} (h : shape_Last a0 = some r) :
  Valid (Lx γ) 75 [vint .i64 a0] ob (vbool r) ob := by
 refine valid_X (lx_ok γ) (fn := Tryd.f75) (rs := [.tmp 2]) Tryd.func75 (by kernel_rfl) rfl rfl Tryd.ntmps75 rfl (by simp) fun hb hob => ?_
 rw [shape_Last] at h
 refine X_sr (lx_ok γ) ?_
 simp -implicitDefEqProofs only [go_sem, seval]
 refine X_sr (lx_ok γ) ?_
 obtain ⟨x1, f1, h⟩ := bindE h
 simp -implicitDefEqProofs only [go_sem, seval]
 refine callV_eq (shape_within_ok γ _  f1) rfl rfl ?_
 simp -implicitDefEqProofs only [go_sem, seval]
 obtain rfl := sI h
 refine X_ret ?_
 simp -implicitDefEqProofs only [go_sem, seval]
 exact Rt.mv1 (BaseR.refl hob) (by simp) (vS)
end Go.Pf
end
section
set_option maxRecDepth 100000
namespace Go.Pf
open Go Go.Ab Go.Pp Go.Proofs Go.Proofs.S08
attribute [local go_sem] Lxτ Lxγ gam0 gam1 Int.toNat_natCast tau3 tau25 tau27 eI eB eS e_Ins e_Block e_Func e_Prog e_kind_state eL_Intu64
set_option maxHeartbeats 1000000 in
theorem shape_block_1_ok (γ : GT) (ob : OT) {a0 : Ins} {v0_6 : V} (hv0_6 : rdK (getO ob) 1 v0_6 = some (List.map (eI .i64) a0.Args)) {r : Bool} (h : shape_block_1 a0 = some r) :
  Valid (Lx γ) 74 [V.agg [vint .i64 a0.Op, vint .i64 a0.D, vint .i64 a0.A, vint .i64 a0.B, vint .i64 a0.N, vint .i64 a0.M, v0_6]] ob (vbool r) ob := by
 refine valid_X (lx_ok γ) (fn := Tryd.f74) (rs := [.tmp 2]) Tryd.func74 (by kernel_rfl) rfl rfl Tryd.ntmps74 rfl (by simp) fun hb hob => ?_
 have hq := rd4 hv0_6
 rw [shape_block_1] at h
 refine X_sr (lx_ok γ) ?_
 simp -implicitDefEqProofs only [go_sem, seval, hq]
 refine X_sr (lx_ok γ) ?_
 obtain ⟨x1, f1, h⟩ := bindE h
 simp -implicitDefEqProofs only [go_sem, seval, hq]
 refine callV_eq (shape_Last_ok γ _  f1) rfl rfl ?_
 simp -implicitDefEqProofs only [go_sem, seval, hq]
 obtain rfl := sI h
 refine X_ret ?_
 simp -implicitDefEqProofs only [go_sem, seval, hq]
 exact Rt.mv0 (BaseR.refl hob) (by simp) (vS)
end Go.Pf
end
section
set_option maxRecDepth 100000
namespace Go.Pf
open Go Go.Ab Go.Pp Go.Proofs Go.Proofs.S08
attribute [local go_sem] Lxτ Lxγ gam0 gam1 Int.toNat_natCast tau3 tau25 tau27 tau36 tau38 tau52 eI eB eS e_Ins e_Block e_Func e_Prog e_kind_state eL_Intu64
set_option maxHeartbeats 1000000 in
theorem shape_block_ok (γ : GT) (ob : OT) {a0 : Block} {v0_0 : V} (hv0_0 : rdK (getO ob) 7 v0_0 = some (List.map e_Ins a0.Code)) {r : Bool} (h : shape_block a0 = some r) :
  Valid (Lx γ) 54 [V.agg [v0_0]] ob (vbool r) ob := by
 refine valid_X (lx_ok γ) (fn := Tryd.f54) (rs := [.tmp 2]) Tryd.func54 (by kernel_rfl) rfl rfl Tryd.ntmps54 rfl (by simp) fun hb hob => ?_
 have hq := rd4 hv0_0
 rw [shape_block] at h
 refine X_sr (lx_ok γ) ?_
 simp -implicitDefEqProofs only [go_sem, seval, hq]
 refine X_sr (lx_ok γ) ?_
 simp -implicitDefEqProofs only [go_sem, seval, hq]
 refine X_sr (lx_ok γ) ?_
 obtain ⟨x1, f1, h⟩ := bindE h
 simp -implicitDefEqProofs only [go_sem, seval, hq]
 refine callV_eq (shape_within_ok γ _  f1) rfl rfl ?_
 cases f2 : x1
 ·rw [if_neg (nF f2)] at h
  simp -implicitDefEqProofs only [go_sem, seval, f2, hq]
  obtain rfl := sI h
  refine X_ret ?_
  simp -implicitDefEqProofs only [go_sem, seval, f2, hq]
  exact Rt.mv0 (BaseR.refl hob) (by simp) (vS)
 ·rw [if_pos f2] at h
  obtain ⟨x2, f3, h⟩ := bindE h
  simp -implicitDefEqProofs only [go_sem, seval, f2, hq]
  refine callV_eq (slices_IndexFunc_Ins_ok γ _ (by first | exact rdK_app hv0_0 | exact hv0_0) (fun ob1 hp y0 r hx => by obtain ⟨l, rfl⟩ := hp; exact shape_block_1_ok γ _ (by simp -implicitDefEqProofs only [go_sem, seval, f2, hq]; try rfl) hx) f3) rfl rfl ?_
  simp -implicitDefEqProofs only [go_sem, seval, f2, hq]
  obtain rfl := sI h
  refine X_ret ?_
  simp -implicitDefEqProofs only [go_sem, seval, f2, hq]
  exact Rt.mv0 (BaseR.refl hob) (by simp) (vS)
end Go.Pf
end
section
set_option maxRecDepth 100000
namespace Go.Pf
open Go Go.Ab Go.Pp Go.Proofs Go.Proofs.S08
attribute [local go_sem] Lxτ Lxγ gam0 gam1 Int.toNat_natCast tau3 tau4 tau25 tau27 tau36 tau38 eI eB eS e_Ins e_Block e_Func e_Prog e_kind_state eL_Intu64
set_option maxHeartbeats 1000000 in
theorem shape_Func_1_ok (γ : GT) (ob : OT) {a0 : Block} {v0_0 : V} (hv0_0 : rdK (getO ob) 7 v0_0 = some (List.map e_Ins a0.Code)) {r : Bool} (h : shape_Func_1 a0 = some r) :
  Valid (Lx γ) 53 [V.agg [v0_0]] ob (vbool r) ob := by
 refine valid_X (lx_ok γ) (fn := Tryd.f53) (rs := [.tmp 2]) Tryd.func53 (by kernel_rfl) rfl rfl Tryd.ntmps53 rfl (by simp) fun hb hob => ?_
 have hq := rd4 hv0_0
 rw [shape_Func_1] at h
 refine X_sr (lx_ok γ) ?_
 simp -implicitDefEqProofs only [go_sem, seval, hq]
 refine X_sr (lx_ok γ) ?_
 obtain ⟨x1, f1, h⟩ := bindE h
 simp -implicitDefEqProofs only [go_sem, seval, hq]
 refine callV_eq (shape_block_ok γ _ (by first | exact rdK_app hv0_0 | exact hv0_0) f1) rfl rfl ?_
 simp -implicitDefEqProofs only [go_sem, seval, hq]
 obtain rfl := sI h
 refine X_ret ?_
 simp -implicitDefEqProofs only [go_sem, seval, hq]
 exact Rt.mv0 (BaseR.refl hob) (by simp) (vS)
end Go.Pf
end
section
set_option maxRecDepth 100000
namespace Go.Pf
open Go Go.Ab Go.Pp Go.Proofs Go.Proofs.S08
attribute [local go_sem] Lxτ Lxγ gam0 gam1 Int.toNat_natCast tau3 tau4 tau25 tau27 tau33 tau35 tau36 tau38 tau78 eI eB eS e_Ins e_Block e_Func e_Prog e_kind_state eL_Intu64
set_option maxHeartbeats 1000000 in
theorem shape_Func_ok (γ : GT) (ob : OT) {a0 : Func} {r : Bool} (h : shape_Func a0 = some r) :
  Valid (Lx γ) 39 [V.agg [V.tr (.sl 1 false (List.map (eI .i64) a0.Kinds)), V.tr (.sl 1 false (List.map (eI .i64) a0.Base)), vint .i64 a0.Params, vint .i64 a0.Result, V.tr (.sl 1 false (List.map e_Block a0.Blocks))]] ob (vbool r) ob := by
 refine valid_X (lx_ok γ) (fn := Tryd.f39) (rs := [.tmp 2]) Tryd.func39 (by kernel_rfl) rfl rfl Tryd.ntmps39 rfl (by simp) fun hb hob => ?_
 rw [shape_Func] at h
 refine X_sr (lx_ok γ) ?_
 simp -implicitDefEqProofs only [go_sem, seval]
 refine X_seq ?_
 refine X_block ?_
 refine X_seq ?_
 refine X_jq (J := fun as1 ob1 => ∃ (x2 : Bool), shape_Func.j1 a0 x2 = some r ∧ [(1, V.ref ob.length 0), (3, vbool x2)] = as1 ∧ ob ++ [some (O.box [V.tr (.sl 1 false (List.map (eI .i64) a0.Kinds)), V.tr (.sl 1 false (List.map (eI .i64) a0.Base)), vint .i64 a0.Params, vint .i64 a0.Result, V.tr (.sl 1 false (List.map e_Block a0.Blocks))])] = ob1) ?_ ?_
 ·rintro as1 ob1 ⟨x2, h, rfl, rfl⟩
  rw [shape_Func.j1] at h
  simp -implicitDefEqProofs only [go_sem, seval]
  cases f1 : x2
  ·rw [if_neg (nF f1)] at h
   refine X_cond (lx_ok γ) ?_
   simp -implicitDefEqProofs only [go_sem, seval, f1]
   refine X_seq ?_
   refine X_jq (J := fun as1 ob1 => ∃ (x4 : Bool), shape_Func.j2 a0 x4 = some r ∧ [(1, V.ref ob.length 0), (17, vbool x4)] = as1 ∧ ob ++ [some (O.box [V.tr (.sl 1 false (List.map (eI .i64) a0.Kinds)), V.tr (.sl 1 false (List.map (eI .i64) a0.Base)), vint .i64 a0.Params, vint .i64 a0.Result, V.tr (.sl 1 false (List.map e_Block a0.Blocks))])] = ob1) ?_ ?_
   ·rintro as1 ob1 ⟨x4, h, rfl, rfl⟩
    rw [shape_Func.j2] at h
    simp -implicitDefEqProofs only [go_sem, seval, f1]
    cases f2 : x4
    ·rw [if_neg (nF f2)] at h
     refine X_cond (lx_ok γ) ?_
     simp -implicitDefEqProofs only [go_sem, seval, f1, f2]
     refine X_skip ?_
     try simp -implicitDefEqProofs only [go_sem]
     refine X_sr (lx_ok γ) ?_
     obtain ⟨x5, f3, h⟩ := bindE h
     simp -implicitDefEqProofs only [go_sem, seval, f1, f2]
     refine callV_eq (shape_within_ok γ _  f3) rfl rfl ?_
     cases f4 : x5
     ·rw [if_neg (nF f4)] at h
      simp -implicitDefEqProofs only [go_sem, seval, f1, f2, f4]
      obtain rfl := sI h
      refine X_ret ?_
      simp -implicitDefEqProofs only [go_sem, seval, f1, f2, f4]
      exact Rt.mv0 (BaseR.refl hob) (by simp) (vS)
     ·rw [if_pos f4] at h
      obtain ⟨x6, f5, h⟩ := bindE h
      simp -implicitDefEqProofs only [go_sem, seval, f1, f2, f4]
      refine callV_eq (slices_ContainsFunc_Block_ok γ _ (by simp -implicitDefEqProofs only [go_sem, seval, f1, f2, f4]; try rfl) (fun ob1 hp y0 r hx => by obtain ⟨l, rfl⟩ := hp; exact shape_Func_1_ok γ _ (by simp -implicitDefEqProofs only [go_sem, seval, f1, f2, f4]; try rfl) hx) f5) rfl rfl ?_
      simp -implicitDefEqProofs only [go_sem, seval, f1, f2, f4]
      obtain rfl := sI h
      refine X_ret ?_
      simp -implicitDefEqProofs only [go_sem, seval, f1, f2, f4]
      exact Rt.mv0 (BaseR.refl hob) (by simp) (vS)
    ·rw [if_pos f2] at h
     refine X_cond (lx_ok γ) ?_
     simp -implicitDefEqProofs only [go_sem, seval, f1, f2]
     refine X_sr (lx_ok γ) ?_
     simp -implicitDefEqProofs only [go_sem, seval, f1, f2]
     obtain rfl := sI h
     refine X_ret ?_
     simp -implicitDefEqProofs only [go_sem, seval, f1, f2]
     exact Rt.mv0 (BaseR.refl hob) (by simp) (vS)
   ·refine X_reg (lx_ok γ) ?_
    obtain ⟨x7, f6, h⟩ := bindE h
    obtain ⟨f7, f8, f9⟩ := headL_some f6
    try simp only [Int.toNat_natCast, Int.reduceToNat] at f8 f9
    obtain ⟨x8, f10, h⟩ := bindE h
    simp -implicitDefEqProofs only [go_sem, seval, f1, f7, f8, f9]
    refine callV_eq (slices_Contains_int_ok γ _ (by simp -implicitDefEqProofs only [go_sem, seval, f1, f7, f8, f9]; try rfl) f10) rfl rfl ?_
    cases f11 : x8
    ·rw [if_neg (nF f11)] at h
     obtain ⟨x9, f12, h⟩ := bindE h
     simp -implicitDefEqProofs only [go_sem, seval, f1, f11, f7, f8, f9]
     refine callV_eq (shape_within_ok γ _  f12) rfl rfl ?_
     simp -implicitDefEqProofs only [go_sem, seval, f1, f11, f7, f8, f9]
     refine kJ_in ?_ ⟨(!x9), h, rfl, rfl⟩
     exact To.mv [(0, 0)] (BaseR.refl hob) (by simp) (by decide) (by simp only [go_sem]; exact ⟨VM.refA (j := 0) (t := 0) rfl, vS⟩) ⟨⟨_, rfl, OM.box _ _ ⟨vS, vS, vS, vS, vS, trivial⟩⟩, trivial⟩
    ·rw [if_pos f11] at h
     simp -implicitDefEqProofs only [go_sem, seval, f1, f11, f7, f8, f9]
     refine kJ_in ?_ ⟨true, h, rfl, rfl⟩
     exact To.mv [(0, 0)] (BaseR.refl hob) (by simp) (by decide) (by simp only [go_sem]; exact ⟨VM.refA (j := 0) (t := 0) rfl, vS⟩) ⟨⟨_, rfl, OM.box _ _ ⟨vS, vS, vS, vS, vS, trivial⟩⟩, trivial⟩
  ·rw [if_pos f1] at h
   refine X_cond (lx_ok γ) ?_
   simp -implicitDefEqProofs only [go_sem, seval, f1]
   refine X_sr (lx_ok γ) ?_
   simp -implicitDefEqProofs only [go_sem, seval, f1]
   obtain rfl := sI h
   refine X_ret ?_
   simp -implicitDefEqProofs only [go_sem, seval, f1]
   exact Rt.mv0 (BaseR.refl hob) (by simp) (vS)
 ·refine X_reg (lx_ok γ) ?_
  obtain ⟨x10, f13, h⟩ := bindE h
  simp -implicitDefEqProofs only [go_sem, seval]
  refine callV_eq (shape_kinds_ok γ _ (by simp -implicitDefEqProofs only [go_sem, seval]; try rfl) (by simp -implicitDefEqProofs only [go_sem, seval]; try rfl) (by simp -implicitDefEqProofs only [go_sem, seval]; try rfl) f13) rfl rfl ?_
  cases f14 : x10
  ·rw [if_neg (nF f14)] at h
   simp -implicitDefEqProofs only [go_sem, seval, f14]
   refine kJ_in ?_ ⟨true, h, rfl, rfl⟩
   exact To.mv [(0, 0)] (BaseR.refl hob) (by simp) (by decide) (by simp only [go_sem]; exact ⟨VM.refA (j := 0) (t := 0) rfl, vS⟩) ⟨⟨_, rfl, OM.box _ _ ⟨vS, vS, vS, vS, vS, trivial⟩⟩, trivial⟩
  ·rw [if_pos f14] at h
   obtain ⟨x11, f15, h⟩ := bindE h
   simp -implicitDefEqProofs only [go_sem, seval, f14]
   refine callV_eq (shape_within_ok γ _  f15) rfl rfl ?_
   simp -implicitDefEqProofs only [go_sem, seval, f14]
   refine kJ_in ?_ ⟨(!x11), h, rfl, rfl⟩
   exact To.mv [(0, 0)] (BaseR.refl hob) (by simp) (by decide) (by simp only [go_sem]; exact ⟨VM.refA (j := 0) (t := 0) rfl, vS⟩) ⟨⟨_, rfl, OM.box _ _ ⟨vS, vS, vS, vS, vS, trivial⟩⟩, trivial⟩
end Go.Pf
end
section
set_option maxRecDepth 100000
namespace Go.Pf
open Go Go.Ab Go.Pp Go.Proofs Go.Proofs.S08
attribute [local go_sem] Lxτ Lxγ gam0 gam1 Int.toNat_natCast tau3 tau25 tau27 tau36 tau52 eI eB eS e_Ins e_Block e_Func e_Prog e_kind_state eL_Intu64
set_option maxHeartbeats 1000000 in
theorem slices_ContainsFunc_Ins_ok (γ : GT) (ob : OT) {a0 : List Ins} {v0 : V} {a1 : Ins → Option (Bool)} {w1 : V} (hv0 : rdK (getO ob) 7 v0 = some (List.map e_Ins a0)) (hf1 : ∀ (ob1 : OT), ob <+: ob1 → ∀ (y0 : Ins) (r : Bool), a1 y0 = some r → FnV (Lx γ) w1 [V.agg [vint .i64 y0.Op, vint .i64 y0.D, vint .i64 y0.A, vint .i64 y0.B, vint .i64 y0.N, vint .i64 y0.M, V.tr (.sl 1 false (List.map (eI .i64) y0.Args))]] ob1 (vbool r) ob1) {r : Bool} (h : slices_ContainsFunc_Ins a0 a1 = some r) :
  Valid (Lx γ) 40 [v0, w1] ob (vbool r) ob := by
 refine valid_X (lx_ok γ) (fn := Tryd.f40) (rs := [.tmp 4]) Tryd.func40 (by kernel_rfl) rfl rfl Tryd.ntmps40 rfl (by simp) fun hb hob => ?_
 have hq := rd4 hv0
 rw [slices_ContainsFunc_Ins] at h
 refine X_sr (lx_ok γ) ?_
 simp -implicitDefEqProofs only [go_sem, seval, hq]
 refine X_sr (lx_ok γ) ?_
 obtain ⟨x1, f1, h⟩ := bindE h
 simp -implicitDefEqProofs only [go_sem, seval, hq]
 refine callV_eq (slices_IndexFunc_Ins_ok γ _ (by first | exact rdK_app hv0 | exact hv0) hf1 f1) rfl rfl ?_
 simp -implicitDefEqProofs only [go_sem, seval, hq]
 obtain rfl := sI h
 refine X_ret ?_
 simp -implicitDefEqProofs only [go_sem, seval, hq]
 exact Rt.mv1 (BaseR.refl hob) (by simp) (vS)
end Go.Pf
end
section
set_option maxRecDepth 100000
namespace Go.Pf
open Go Go.Ab Go.Pp Go.Proofs Go.Proofs.S08
attribute [local go_sem] Lxτ Lxγ gam0 gam1 Int.toNat_natCast tau3 tau9 tau88 eI eB eS e_Ins e_Block e_Func e_Prog e_kind_state eL_Intu64
set_option maxHeartbeats 1000000 in
theorem code_Parts_ok (γ : GT) (ob : OT) {a0 : Int} {r : ByteArray} (h : code_Parts a0 = some r) :
  Valid (Lx γ) 56 [vint .i64 a0] ob (vstr r) ob := by
 refine valid_X (lx_ok γ) (fn := Tryd.f56) (rs := [.tmp 2]) Tryd.func56 (by kernel_rfl) rfl rfl Tryd.ntmps56 rfl (by simp) fun hb hob => ?_
 rw [code_Parts] at h
 refine X_sr (lx_ok γ) ?_
 simp -implicitDefEqProofs only [go_sem, seval]
 refine X_seq ?_
 refine X_sr (lx_ok γ) ?_
 cases f1 : decide (a0 < 0)
 ·rw [if_neg (nF f1)] at h
  simp -implicitDefEqProofs only [go_sem, seval, f1]
  cases f2 : decide (24 ≤ a0)
  ·rw [if_neg (nF f2)] at h
   refine X_cond (lx_ok γ) ?_
   simp -implicitDefEqProofs only [go_sem, seval, f1, f2]
   refine X_skip ?_
   try simp -implicitDefEqProofs only [go_sem]
   refine X_sr (lx_ok γ) ?_
   obtain ⟨x1, f3, h⟩ := bindE h
   obtain ⟨f4, f5, f6⟩ := ixL_some f3
   replace f5 : a0 < 24 := f5
   have f7 : Int.toNat a0 + 1 ≤ List.length partsL := by have : List.length partsL = 24 := rfl; omega
   have f8 : List.take 1 (List.drop (Int.toNat a0) partsL) = [x1] := take1_of f6
   simp -implicitDefEqProofs only [go_sem, seval, f1, f2, f4, f5, f7, f8]
   obtain rfl := sI h
   refine X_ret ?_
   simp -implicitDefEqProofs only [go_sem, seval, f1, f2, f4, f5, f7, f8]
   exact Rt.mv1 (BaseR.refl hob) (by simp) (vS)
  ·rw [if_pos f2] at h
   refine X_cond (lx_ok γ) ?_
   simp -implicitDefEqProofs only [go_sem, seval, f1, f2]
   refine X_sr (lx_ok γ) ?_
   simp -implicitDefEqProofs only [go_sem, seval, f1, f2]
   obtain rfl := sI h
   refine X_ret ?_
   simp -implicitDefEqProofs only [go_sem, seval, f1, f2]
   exact Rt.mv1 (BaseR.refl hob) (by simp) (vS)
 ·rw [if_pos f1] at h
  simp -implicitDefEqProofs only [go_sem, seval, f1]
  refine X_condT (lx_ok γ) rfl ?_
  refine X_sr (lx_ok γ) ?_
  simp -implicitDefEqProofs only [go_sem, seval, f1]
  obtain rfl := sI h
  refine X_ret ?_
  simp -implicitDefEqProofs only [go_sem, seval, f1]
  exact Rt.mv1 (BaseR.refl hob) (by simp) (vS)
end Go.Pf
end
section
set_option maxRecDepth 100000
namespace Go.Pf
open Go Go.Ab Go.Pp Go.Proofs Go.Proofs.S08
attribute [local go_sem] Lxτ Lxγ gam0 gam1 Int.toNat_natCast  eI eB eS e_Ins e_Block e_Func e_Prog e_kind_state eL_Intu64
set_option maxHeartbeats 1000000 in
theorem stringslite_IndexByte_calls (s : ByteArray) (c : Int) (w : World) :
  Calls Tryd.prog 87 #[.string s, .int .u8 c] w fun e w' => e = .returned (.int .i64 (Lib.indexByte s.data.toList c.toNat.toUInt8)) ∧ w' = w := by
 go_enter Tryd.func87, Tryd.ntmps87
 go_wp2
 rw [run_callFunc_extern Tryd.func99 (by kernel_rfl) (by kernel_rfl) (by kernel_rfl) (e := Extern.BytealgIndexByte.indexByte) (by kernel_rfl), Lib.run_indexByteString]
 simp only [Result.andThen]
 rw [Oper.upon_value]
 go_wp2
 go_ret
 exact ⟨rfl, rfl⟩
theorem stringslite_IndexByte_ok (γ : GT) (ob : OT) {a0 : ByteArray} {a1 : Int} {r : Int} (h : stringslite_IndexByte a0 a1 = some r) :
  Valid (Lx γ) 87 [vstr a0, vint .u8 a1] ob (vint .i64 r) ob := by
 rw [stringslite_IndexByte] at h
 obtain rfl := sI h
 refine Valid.quiet2 ⟨⟨Tryd.f87, Tryd.func87, by kernel_rfl, rfl⟩⟩ (fun M G => .tr (.lit _ rfl)) (fun w => ?_)
 refine (stringslite_IndexByte_calls a0 a1 w).mono ?_
 rintro e w' ⟨rfl, rfl⟩
 exact ⟨by rw [ixBL_is]; rfl, rfl⟩
end Go.Pf
end
section
set_option maxRecDepth 100000
namespace Go.Pf
open Go Go.Ab Go.Pp Go.Proofs Go.Proofs.S08
attribute [local go_sem] Lxτ Lxγ gam0 gam1 Int.toNat_natCast tau5 tau9 eI eB eS e_Ins e_Block e_Func e_Prog e_kind_state eL_Intu64
set_option maxHeartbeats 1000000 in
theorem strings_IndexByte_ok (γ : GT) (ob : OT) {a0 : ByteArray} {a1 : Int} {r : Int} (h : strings_IndexByte a0 a1 = some r) :
  Valid (Lx γ) 82 [vstr a0, vint .u8 a1] ob (vint .i64 r) ob := by
 refine valid_X (lx_ok γ) (fn := Tryd.f82) (rs := [.tmp 4]) Tryd.func82 (by kernel_rfl) rfl rfl Tryd.ntmps82 rfl (by simp) fun hb hob => ?_
 rw [strings_IndexByte] at h
 refine X_sr (lx_ok γ) ?_
 simp -implicitDefEqProofs only [go_sem, seval]
 refine X_sr (lx_ok γ) ?_
 obtain ⟨x1, f1, h⟩ := bindE h
 simp -implicitDefEqProofs only [go_sem, seval]
 refine callV_eq (stringslite_IndexByte_ok γ _  f1) rfl rfl ?_
 simp -implicitDefEqProofs only [go_sem, seval]
 obtain rfl := sI h
 refine X_ret ?_
 simp -implicitDefEqProofs only [go_sem, seval]
 exact Rt.mv1 (BaseR.refl hob) (by simp) (vS)
end Go.Pf
end
section
set_option maxRecDepth 100000
namespace Go.Pf
open Go Go.Ab Go.Pp Go.Proofs Go.Proofs.S08
attribute [local go_sem] Lxτ Lxγ gam0 gam1 Int.toNat_natCast tau3 tau5 tau9 eI eB eS e_Ins e_Block e_Func e_Prog e_kind_state eL_Intu64
set_option maxHeartbeats 1000000 in
theorem shape_has_ok (γ : GT) (ob : OT) {a0 : Int} {a1 : Int} {r : Bool} (h : shape_has a0 a1 = some r) :
  Valid (Lx γ) 64 [vint .i64 a0, vint .u8 a1] ob (vbool r) ob := by
 refine valid_X (lx_ok γ) (fn := Tryd.f64) (rs := [.tmp 4]) Tryd.func64 (by kernel_rfl) rfl rfl Tryd.ntmps64 rfl (by simp) fun hb hob => ?_
 rw [shape_has] at h
 refine X_sr (lx_ok γ) ?_
 simp -implicitDefEqProofs only [go_sem, seval]
 refine X_sr (lx_ok γ) ?_
 obtain ⟨x1, f1, h⟩ := bindE h
 simp -implicitDefEqProofs only [go_sem, seval]
 refine callV_eq (code_Parts_ok γ _  f1) rfl rfl ?_
 obtain ⟨x2, f2, h⟩ := bindE h
 simp -implicitDefEqProofs only [go_sem, seval]
 refine callV_eq (strings_IndexByte_ok γ _  f2) rfl rfl ?_
 simp -implicitDefEqProofs only [go_sem, seval]
 obtain rfl := sI h
 refine X_ret ?_
 simp -implicitDefEqProofs only [go_sem, seval]
 exact Rt.mv1 (BaseR.refl hob) (by simp) (vS)
end Go.Pf
end
section
set_option maxRecDepth 100000
namespace Go.Pf
open Go Go.Ab Go.Pp Go.Proofs Go.Proofs.S08
attribute [local go_sem] Lxτ Lxγ gam0 gam1 Int.toNat_natCast tau3 tau5 tau25 tau27 eI eB eS e_Ins e_Block e_Func e_Prog e_kind_state eL_Intu64
set_option maxHeartbeats 1000000 in
theorem shape_Uses_ok (γ : GT) (ob : OT) {a0 : Ins} {v0_6 : V} (hv0_6 : rdK (getO ob) 1 v0_6 = some (List.map (eI .i64) a0.Args)) {r : List Int} (h : shape_Uses a0 = some r) :
  Valid (Lx γ) 43 [V.agg [vint .i64 a0.Op, vint .i64 a0.D, vint .i64 a0.A, vint .i64 a0.B, vint .i64 a0.N, vint .i64 a0.M, v0_6]] ob (V.row ob.length 0 0 (List.length r)) (ob ++ [some (O.row 1 0 (List.map (eI .i64) r))]) := by
 refine valid_X (lx_ok γ) (fn := Tryd.f43) (rs := [.tmp 2]) Tryd.func43 (by kernel_rfl) rfl rfl Tryd.ntmps43 rfl (by simp) fun hb hob => ?_
 have hq := rd4 hv0_6
 rw [shape_Uses] at h
 refine X_sr (lx_ok γ) ?_
 simp -implicitDefEqProofs only [go_sem, seval, hq]
 refine X_sr (lx_ok γ) ?_
 simp -implicitDefEqProofs only [go_sem, seval, hq]
 refine X_seq ?_
 refine X_jq (J := fun as1 ob1 => ∃ (x1 : List Int), shape_Uses.j1 a0 x1 = some r ∧ [(1, V.ref ob.length 0), (3, V.row (ob.length + 1) 0 0 (List.length x1))] = as1 ∧ ob ++ [some (O.box [vint .i64 a0.Op, vint .i64 a0.D, vint .i64 a0.A, vint .i64 a0.B, vint .i64 a0.N, vint .i64 a0.M, v0_6]), some (O.row 1 0 (List.map (eI .i64) x1))] = ob1) ?_ ?_
 ·rintro as1 ob1 ⟨x1, h, rfl, rfl⟩
  rw [shape_Uses.j1] at h
  simp -implicitDefEqProofs only [go_sem, seval, hq]
  refine X_seq ?_
  refine X_jq (J := fun as1 ob1 => ∃ (x2 : List Int), shape_Uses.j2 a0 x2 = some r ∧ [(1, V.ref ob.length 0), (3, V.row (ob.length + 1) 0 0 (List.length x2))] = as1 ∧ ob ++ [some (O.box [vint .i64 a0.Op, vint .i64 a0.D, vint .i64 a0.A, vint .i64 a0.B, vint .i64 a0.N, vint .i64 a0.M, v0_6]), some (O.row 1 0 (List.map (eI .i64) x2))] = ob1) ?_ ?_
  ·rintro as1 ob1 ⟨x2, h, rfl, rfl⟩
   rw [shape_Uses.j2] at h
   simp -implicitDefEqProofs only [go_sem, seval, hq]
   refine X_seq ?_
   refine X_sr (lx_ok γ) ?_
   obtain ⟨x3, f1, h⟩ := bindE h
   simp -implicitDefEqProofs only [go_sem, seval, hq]
   refine callV_eq (shape_has_ok γ _  f1) rfl rfl ?_
   simp -implicitDefEqProofs only [go_sem, seval, hq]
   cases f2 : x3
   ·rw [if_neg (nF f2)] at h
    refine X_cond (lx_ok γ) ?_
    simp -implicitDefEqProofs only [go_sem, seval, f2, hq]
    refine X_skip ?_
    try simp -implicitDefEqProofs only [go_sem]
    refine X_sr (lx_ok γ) ?_
    simp -implicitDefEqProofs only [go_sem, seval, f2, hq]
    obtain rfl := sI h
    refine X_ret ?_
    simp -implicitDefEqProofs only [go_sem, seval, f2, hq]
    exact Rt.mv [(1, 0)] (BaseR.refl hob) (by simp) (by decide) (VM.rowL (j := 1) (t := 0) rfl (by first | rfl | omega | (simp [*]; done) | simp | simp_all)) ⟨⟨_, rfl, OM.row' (by first | rfl | simp_all)⟩, trivial⟩
   ·rw [if_pos f2] at h
    refine X_cond (lx_ok γ) ?_
    simp -implicitDefEqProofs only [go_sem, seval, f2, hq]
    refine X_reg (lx_ok γ) ?_
    obtain ⟨x4, f3, h⟩ := bindE h
    have f4 : List.length x4 * 8 ≤ 140737488355328 := by have := (appL_some f3).1; rw [(appL_some f3).2]; simpa using this
    have f5 : List.map (eI .i64) x2 ++ List.map (eI .i64) a0.Args = List.map (eI .i64) x4 := by rw [(appL_some f3).2]; simp [eB, eI, eS]
    have f6 : List.length x2 + List.length a0.Args = List.length x4 := by rw [(appL_some f3).2]; simp
    simp -implicitDefEqProofs only [go_sem, seval, f2, hq, f4, f5, f6]
    refine X_sr (lx_ok γ) ?_
    simp -implicitDefEqProofs only [go_sem, seval, f2, hq]
    obtain rfl := sI h
    refine X_ret ?_
    simp -implicitDefEqProofs only [go_sem, seval, f2, hq]
    exact Rt.mv [(1, 1)] (BaseR.refl hob) (by simp) (by decide) (VM.rowL (j := 1) (t := 0) rfl (by first | rfl | omega | (simp [*]; done) | simp | simp_all)) ⟨⟨_, rfl, OM.row' (by first | rfl | simp_all)⟩, trivial⟩
  ·refine X_sr (lx_ok γ) ?_
   obtain ⟨x5, f7, h⟩ := bindE h
   simp -implicitDefEqProofs only [go_sem, seval, hq]
   refine callV_eq (shape_has_ok γ _  f7) rfl rfl ?_
   simp -implicitDefEqProofs only [go_sem, seval, hq]
   cases f8 : x5
   ·rw [if_neg (nF f8)] at h
    refine X_cond (lx_ok γ) ?_
    simp -implicitDefEqProofs only [go_sem, seval, f8, hq]
    refine X_skip ?_
    try simp -implicitDefEqProofs only [go_sem]
    refine kJ_in ?_ ⟨x1, h, rfl, rfl⟩
    exact To.mv [(0, 0), (1, 0)] (BaseR.refl hob) (by simp) (by decide) (by simp only [go_sem]; exact ⟨VM.refA (j := 0) (t := 0) rfl, VM.rowL (j := 1) (t := 1) rfl (by first | rfl | omega | (simp [*]; done) | simp | simp_all)⟩) ⟨⟨_, rfl, OM.box _ _ ⟨vS, vS, vS, vS, vS, vS, VM.self (by simpa using Bd.of_rdK hv0_6), trivial⟩⟩, ⟨_, rfl, OM.row' (by first | rfl | simp_all)⟩, trivial⟩
   ·rw [if_pos f8] at h
    refine X_cond (lx_ok γ) ?_
    simp -implicitDefEqProofs only [go_sem, seval, f8, hq]
    refine X_reg (lx_ok γ) ?_
    obtain ⟨x6, f9, h⟩ := bindE h
    have f10 : List.length x6 * 8 ≤ 140737488355328 := by have := (appL_some f9).1; rw [(appL_some f9).2]; simpa using this
    have f11 : List.map (eI .i64) x1 ++ [[.lit (.int .i64 a0.B)]] = List.map (eI .i64) x6 := by rw [(appL_some f9).2]; simp [eB, eI, eS]
    have f12 : List.length x1 + 1 = List.length x6 := by rw [(appL_some f9).2]; simp
    simp -implicitDefEqProofs only [go_sem, seval, f8, hq, f10, f11, f12]
    refine kJ_in ?_ ⟨x6, h, rfl, rfl⟩
    exact To.mv [(0, 0), (1, 1)] (BaseR.refl hob) (by simp) (by decide) (by simp only [go_sem]; exact ⟨VM.refA (j := 0) (t := 0) rfl, VM.rowL (j := 1) (t := 1) rfl (by first | rfl | omega | (simp [*]; done) | simp | simp_all)⟩) ⟨⟨_, rfl, OM.box _ _ ⟨vS, vS, vS, vS, vS, vS, VM.self (by simpa using Bd.of_rdK hv0_6), trivial⟩⟩, ⟨_, rfl, OM.row' (by first | rfl | simp_all)⟩, trivial⟩
 ·refine X_sr (lx_ok γ) ?_
  obtain ⟨x7, f13, h⟩ := bindE h
  simp -implicitDefEqProofs only [go_sem, seval, hq]
  refine callV_eq (shape_has_ok γ _  f13) rfl rfl ?_
  simp -implicitDefEqProofs only [go_sem, seval, hq]
  cases f14 : x7
  ·rw [if_neg (nF f14)] at h
   refine X_cond (lx_ok γ) ?_
   simp -implicitDefEqProofs only [go_sem, seval, f14, hq]
   refine X_skip ?_
   try simp -implicitDefEqProofs only [go_sem]
   refine kJ_in ?_ ⟨[], h, rfl, rfl⟩
   exact To.trans (To.gh (as' := [(1, _), (3, V.row (ob.length + 1) 0 0 0)]) (l' := [some (O.box [_, _, _, _, _, _, _])]) 1 ⟨VG.refl _ _ _, VG.nilL, trivial⟩ ⟨Or.inl rfl, trivial⟩) (To.mv [(0, 0), (1, 0)] (BaseR.refl hob) (by simp) (by decide) (by simp only [go_sem]; exact ⟨VM.refA (j := 0) (t := 0) rfl, VM.rowL (j := 1) (t := 1) rfl (by simp)⟩) ⟨⟨_, rfl, OM.box _ _ ⟨vS, vS, vS, vS, vS, vS, VM.self (by simpa using Bd.of_rdK hv0_6), trivial⟩⟩, ⟨_, rfl, OM.row' rfl⟩, trivial⟩)
  ·rw [if_pos f14] at h
   refine X_cond (lx_ok γ) ?_
   simp -implicitDefEqProofs only [go_sem, seval, f14, hq]
   refine X_reg (lx_ok γ) ?_
   simp -implicitDefEqProofs only [go_sem, seval, f14, hq]
   refine kJ_in ?_ ⟨[a0.A], h, rfl, rfl⟩
   exact To.mv [(0, 0), (2, 0)] (BaseR.refl hob) (by simp) (by decide) (by simp only [go_sem]; exact ⟨VM.refA (j := 0) (t := 0) rfl, VM.rowL (j := 2) (t := 1) rfl (by first | rfl | omega | (simp [*]; done) | simp | simp_all)⟩) ⟨⟨_, rfl, OM.box _ _ ⟨vS, vS, vS, vS, vS, vS, VM.self (by simpa using Bd.of_rdK hv0_6), trivial⟩⟩, ⟨_, rfl, OM.row' (by first | rfl | simp_all)⟩, trivial⟩
end Go.Pf
end
section
set_option maxRecDepth 100000
namespace Go.Pf
open Go Go.Ab Go.Pp Go.Proofs Go.Proofs.S08
attribute [local go_sem] Lxτ Lxγ gam0 gam1 Int.toNat_natCast tau9 tau21 eI eB eS e_Ins e_Block e_Func e_Prog e_kind_state eL_Intu64
set_option maxHeartbeats 1000000 in
theorem shape_hasAny_ok (γ : GT) (ob : OT) {a0 : ByteArray} {a1 : ByteArray} {r : Bool} (h : shape_hasAny a0 a1 = some r) :
  Valid (Lx γ) 77 [vstr a0, vstr a1] ob (vbool r) ob := by
 refine valid_X (lx_ok γ) (fn := Tryd.f77) (rs := [.tmp 4]) Tryd.func77 (by kernel_rfl) rfl rfl Tryd.ntmps77 rfl (by simp) fun hb hob => ?_
 rw [shape_hasAny] at h
 refine X_sr (lx_ok γ) ?_
 simp -implicitDefEqProofs only [go_sem, seval]
 refine X_seq ?_
 refine X_sr (lx_ok γ) ?_
 simp -implicitDefEqProofs only [go_sem, seval]
 refine X_jq (J := fun as1 ob1 => shape_hasAny.k1 = some r ∧ [] = as1 ∧ ob = ob1) ?_ ?_
 ·rintro as1 ob1 ⟨h, rfl, rfl⟩
  rw [shape_hasAny.k1] at h
  simp -implicitDefEqProofs only [go_sem, seval]
  refine X_sr (lx_ok γ) ?_
  simp -implicitDefEqProofs only [go_sem, seval]
  obtain rfl := sI h
  refine X_ret ?_
  simp -implicitDefEqProofs only [go_sem, seval]
  exact Rt.mv1 (BaseR.refl hob) (by simp) (vS)
 ·refine X_block ?_
  obtain ⟨lr1, hl1, hk1, hr1⟩ := aft2 h
  refine X_while hl1 (fun (s : Nat) as1 ob1 => [(1, vstr a1), (10, V.ref ob.length 0)] = as1 ∧ ob ++ [some (O.iter a0 s)] = ob1) ⟨_, _, ?_, rfl, rfl⟩ ?_
  ·exact To.mv [(0, 0)] (BaseR.refl hob) (by simp) (by decide) (by simp only [go_sem]; exact ⟨vS, VM.refA (j := 0) (t := 0) rfl⟩) ⟨⟨_, rfl, OM.iter _ _⟩, trivial⟩
  ·rintro x1 o1 h ho1 as1 ob1 ⟨rfl, rfl⟩
   rw [shape_hasAny.b1] at h
   refine X_sr (lx_ok γ) ?_
   simp -implicitDefEqProofs only [go_sem, seval]
   refine X_seq ?_
   cases f1 : decide (x1 < a0.size)
   ·rw [if_neg (nF f1)] at h
    refine X_cond (lx_ok γ) ?_
    simp -implicitDefEqProofs only [go_sem, seval, f1]
    obtain rfl := sI h
    have h := hk1 _ (.inr (ho1 (fun _ hs => nomatch hs)))
    refine X_exit ?_
    try simp -implicitDefEqProofs only [go_sem, ↓reduceIte, Nat.reduceEqDiff, reduceCtorEq]
    refine kJ_in ?_ ⟨h, rfl, rfl⟩
    exact To.mv0 (BaseR.refl hob) (by simp) trivial
   ·rw [if_pos f1] at h
    refine X_cond (lx_ok γ) ?_
    simp -implicitDefEqProofs only [go_sem, seval, f1]
    refine X_skip ?_
    try simp -implicitDefEqProofs only [go_sem]
    refine X_block ?_
    refine X_sr (lx_ok γ) ?_
    simp -implicitDefEqProofs only [go_sem, seval, f1]
    refine X_sr (lx_ok γ) ?_
    simp -implicitDefEqProofs only [go_sem, seval, f1]
    refine X_jq (J := fun as1 ob1 => shape_hasAny.k2 a0 x1 = some o1 ∧ [(1, vstr a1), (10, V.ref ob.length 0)] = as1 ∧ ob ++ [some (O.iter a0 (nxP a0 x1))] = ob1) ?_ ?_
    ·rintro as1 ob1 ⟨h, rfl, rfl⟩
     rw [shape_hasAny.k2] at h
     obtain rfl := sI h
     simp -implicitDefEqProofs only [go_sem, seval, f1]
     refine kR_in rfl ?_ ⟨rfl, rfl⟩
     exact To.mv [(0, 0)] (BaseR.refl hob) (by simp) (by decide) (by simp only [go_sem]; exact ⟨vS, VM.refA (j := 0) (t := 0) rfl⟩) ⟨⟨_, rfl, OM.iter _ _⟩, trivial⟩
    ·refine X_block ?_
     obtain ⟨lr2, hl2, hk2, hr2⟩ := aft2 h
     refine X_while hl2 (fun (s : Nat) as1 ob1 => [(1, vstr a1), (6, vint .i32 (decI a0 x1)), (10, V.ref ob.length 0), (15, V.ref (ob.length + 1) 0)] = as1 ∧ ob ++ [some (O.iter a0 (nxP a0 x1)), some (O.iter a1 s)] = ob1) ⟨_, _, ?_, rfl, rfl⟩ ?_
     ·exact To.mv [(0, 0), (1, 0)] (BaseR.refl hob) (by simp) (by decide) (by simp only [go_sem]; exact ⟨vS, vS, VM.refA (j := 0) (t := 0) rfl, VM.refA (j := 1) (t := 1) rfl⟩) ⟨⟨_, rfl, OM.iter _ _⟩, ⟨_, rfl, OM.iter _ _⟩, trivial⟩
     ·rintro x2 o2 h ho2 as1 ob1 ⟨rfl, rfl⟩
      rw [shape_hasAny.b2] at h
      refine X_sr (lx_ok γ) ?_
      simp -implicitDefEqProofs only [go_sem, seval, f1]
      refine X_seq ?_
      cases f2 : decide (x2 < a1.size)
      ·rw [if_neg (nF f2)] at h
       refine X_cond (lx_ok γ) ?_
       simp -implicitDefEqProofs only [go_sem, seval, f1, f2]
       obtain rfl := sI h
       have h := hk2 _ (.inr (ho2 (fun _ hs => nomatch hs)))
       refine X_exit ?_
       try simp -implicitDefEqProofs only [go_sem, ↓reduceIte, Nat.reduceEqDiff, reduceCtorEq]
       refine kJ_in ?_ ⟨h, rfl, rfl⟩
       exact To.mv [(0, 0)] (BaseR.refl hob) (by simp) (by decide) (by simp only [go_sem]; exact ⟨vS, VM.refA (j := 0) (t := 0) rfl⟩) ⟨⟨_, rfl, OM.iter _ _⟩, trivial⟩
      ·rw [if_pos f2] at h
       refine X_cond (lx_ok γ) ?_
       simp -implicitDefEqProofs only [go_sem, seval, f1, f2]
       refine X_skip ?_
       try simp -implicitDefEqProofs only [go_sem]
       refine X_block ?_
       refine X_sr (lx_ok γ) ?_
       simp -implicitDefEqProofs only [go_sem, seval, f1, f2]
       refine X_sr (lx_ok γ) ?_
       simp -implicitDefEqProofs only [go_sem, seval, f1, f2]
       cases f3 : ((decI a0 x1) == (decI a1 x2))
       ·rw [if_neg (nF f3)] at h
        refine X_cond (lx_ok γ) ?_
        simp -implicitDefEqProofs only [go_sem, seval, f1, f2, f3]
        obtain rfl := sI h
        refine X_skip ?_
        try simp -implicitDefEqProofs only [go_sem]
        refine kR_in rfl ?_ ⟨rfl, rfl⟩
        exact To.mv [(0, 0), (1, 0)] (BaseR.refl hob) (by simp) (by decide) (by simp only [go_sem]; exact ⟨vS, vS, VM.refA (j := 0) (t := 0) rfl, VM.refA (j := 1) (t := 1) rfl⟩) ⟨⟨_, rfl, OM.iter _ _⟩, ⟨_, rfl, OM.iter _ _⟩, trivial⟩
       ·rw [if_pos f3] at h
        refine X_cond (lx_ok γ) ?_
        simp -implicitDefEqProofs only [go_sem, seval, f1, f2, f3]
        refine X_sr (lx_ok γ) ?_
        simp -implicitDefEqProofs only [go_sem, seval, f1, f2, f3]
        obtain rfl := sI h
        have h := hr2 _ (ho2 (fun _ hs => nomatch hs))
        obtain rfl := sI h
        have h := hr1 _ (ho1 (fun _ hs => nomatch hs))
        obtain rfl := sI h
        refine X_ret ?_
        simp -implicitDefEqProofs only [go_sem, seval, f1, f2, f3]
        exact Rt.mv0 (BaseR.refl hob) (by simp) (vS)
end Go.Pf
end
section
set_option maxRecDepth 100000
namespace Go.Pf
open Go Go.Ab Go.Pp Go.Proofs Go.Proofs.S08
attribute [local go_sem] Lxτ Lxγ gam0 gam1 Int.toNat_natCast tau3 tau4 tau9 tau25 tau27 eI eB eS e_Ins e_Block e_Func e_Prog e_kind_state eL_Intu64
set_option maxHeartbeats 1000000 in
theorem shape_bare_1_ok (γ : GT) (ob : OT) {a0 : Int} {a1 : ByteArray} {o2 : Nat} {a2 : Ins} {u2_6 : V} (hx2 : getO ob o2 = some (O.box [vint .i64 a2.Op, vint .i64 a2.D, vint .i64 a2.A, vint .i64 a2.B, vint .i64 a2.N, vint .i64 a2.M, u2_6])) {r : Bool} (h : shape_bare_1 a0 a1 a2 = some r) :
  Valid (Lx γ) 76 [vint .i64 a0, vstr a1, V.ref o2 0] ob (vbool r) ob := by
 refine valid_X (lx_ok γ) (fn := Tryd.f76) (rs := [.tmp 5]) Tryd.func76 (by kernel_rfl) rfl rfl Tryd.ntmps76 rfl (by simp) fun hb hob => ?_
 have hoa2 := getO_lt hx2
 have bu2_6 : Bd ob.length u2_6 := hob _ _ hx2 u2_6 (by simp)
 rw [shape_bare_1] at h
 refine X_sr (lx_ok γ) ?_
 simp -implicitDefEqProofs only [go_sem, seval, hx2, getO_ext hx2]
 refine X_sr (lx_ok γ) ?_
 cases f1 : (a0 != 0)
 ·rw [if_neg (nF f1)] at h
  simp -implicitDefEqProofs only [go_sem, seval, f1, hx2, getO_ext hx2]
  obtain rfl := sI h
  refine X_ret ?_
  simp -implicitDefEqProofs only [go_sem, seval, f1, hx2, getO_ext hx2]
  exact Rt.mv1 (BaseR.refl hob) (by simp) (vS)
 ·rw [if_pos f1] at h
  obtain ⟨x1, f2, h⟩ := bindE h
  simp -implicitDefEqProofs only [go_sem, seval, f1, hx2, getO_ext hx2]
  refine callV_eq (code_Parts_ok γ _  f2) rfl rfl ?_
  obtain ⟨x2, f3, h⟩ := bindE h
  simp -implicitDefEqProofs only [go_sem, seval, f1, hx2, getO_ext hx2]
  refine callV_eq (shape_hasAny_ok γ _  f3) rfl rfl ?_
  simp -implicitDefEqProofs only [go_sem, seval, f1, hx2, getO_ext hx2]
  obtain rfl := sI h
  refine X_ret ?_
  simp -implicitDefEqProofs only [go_sem, seval, f1, hx2, getO_ext hx2]
  exact Rt.mv1 (BaseR.refl hob) (by simp) (vS)
end Go.Pf
end
section
set_option maxRecDepth 100000
namespace Go.Pf
open Go Go.Ab Go.Pp Go.Proofs Go.Proofs.S08
attribute [local go_sem] Lxτ Lxγ gam0 gam1 Int.toNat_natCast tau3 tau4 tau9 tau25 tau27 eI eB eS e_Ins e_Block e_Func e_Prog e_kind_state eL_Intu64
set_option maxHeartbeats 1000000 in
theorem shape_bare_ok (γ : GT) (ob : OT) {a0 : Ins} {v0_6 : V} (hv0_6 : rdK (getO ob) 1 v0_6 = some (List.map (eI .i64) a0.Args)) {r : Bool} (h : shape_bare a0 = some r) :
  Valid (Lx γ) 57 [V.agg [vint .i64 a0.Op, vint .i64 a0.D, vint .i64 a0.A, vint .i64 a0.B, vint .i64 a0.N, vint .i64 a0.M, v0_6]] ob (vbool r) ob := by
 refine valid_X (lx_ok γ) (fn := Tryd.f57) (rs := [.tmp 2]) Tryd.func57 (by kernel_rfl) rfl rfl Tryd.ntmps57 rfl (by simp) fun hb hob => ?_
 have hq := rd4 hv0_6
 rw [shape_bare] at h
 refine X_sr (lx_ok γ) ?_
 simp -implicitDefEqProofs only [go_sem, seval, hq]
 refine X_sr (lx_ok γ) ?_
 simp -implicitDefEqProofs only [go_sem, seval, hq]
 refine X_sr (lx_ok γ) ?_
 obtain ⟨x1, f1, h⟩ := bindE h
 simp -implicitDefEqProofs only [go_sem, seval, hq]
 refine callV_eq (shape_bare_1_ok γ _ (by simp -implicitDefEqProofs only [go_sem, seval, hq]; try rfl) f1) rfl rfl ?_
 cases f2 : x1
 ·rw [if_neg (nF f2)] at h
  obtain ⟨x2, f3, h⟩ := bindE h
  simp -implicitDefEqProofs only [go_sem, seval, f2, hq]
  refine callV_eq (shape_bare_1_ok γ _ (by simp -implicitDefEqProofs only [go_sem, seval, f2, hq]; try rfl) f3) rfl rfl ?_
  cases f4 : x2
  ·rw [if_neg (nF f4)] at h
   obtain ⟨x3, f5, h⟩ := bindE h
   simp -implicitDefEqProofs only [go_sem, seval, f2, f4, hq]
   refine callV_eq (shape_bare_1_ok γ _ (by simp -implicitDefEqProofs only [go_sem, seval, f2, f4, hq]; try rfl) f5) rfl rfl ?_
   cases f6 : x3
   ·rw [if_neg (nF f6)] at h
    obtain ⟨x4, f7, h⟩ := bindE h
    simp -implicitDefEqProofs only [go_sem, seval, f2, f4, f6, hq]
    refine callV_eq (shape_bare_1_ok γ _ (by simp -implicitDefEqProofs only [go_sem, seval, f2, f4, f6, hq]; try rfl) f7) rfl rfl ?_
    cases f8 : x4
    ·rw [if_neg (nF f8)] at h
     obtain ⟨x5, f9, h⟩ := bindE h
     simp -implicitDefEqProofs only [go_sem, seval, f2, f4, f6, f8, hq]
     refine callV_eq (shape_bare_1_ok γ _ (by simp -implicitDefEqProofs only [go_sem, seval, f2, f4, f6, f8, hq]; try rfl) f9) rfl rfl ?_
     cases f10 : x5
     ·rw [if_neg (nF f10)] at h
      obtain ⟨x6, f11, h⟩ := bindE h
      simp -implicitDefEqProofs only [go_sem, seval, f2, f4, f6, f8, f10, hq]
      refine callV_eq (shape_bare_1_ok γ _ (by simp -implicitDefEqProofs only [go_sem, seval, f2, f4, f6, f8, f10, hq]; try rfl) f11) rfl rfl ?_
      simp -implicitDefEqProofs only [go_sem, seval, f2, f4, f6, f8, f10, hq]
      obtain rfl := sI h
      refine X_ret ?_
      simp -implicitDefEqProofs only [go_sem, seval, f2, f4, f6, f8, f10, hq]
      exact Rt.mv0 (BaseR.refl hob) (by simp) (vS)
     ·rw [if_pos f10] at h
      simp -implicitDefEqProofs only [go_sem, seval, f2, f4, f6, f8, f10, hq]
      obtain rfl := sI h
      refine X_ret ?_
      simp -implicitDefEqProofs only [go_sem, seval, f2, f4, f6, f8, f10, hq]
      exact Rt.mv0 (BaseR.refl hob) (by simp) (vS)
    ·rw [if_pos f8] at h
     simp -implicitDefEqProofs only [go_sem, seval, f2, f4, f6, f8, hq]
     obtain rfl := sI h
     refine X_ret ?_
     simp -implicitDefEqProofs only [go_sem, seval, f2, f4, f6, f8, hq]
     exact Rt.mv0 (BaseR.refl hob) (by simp) (vS)
   ·rw [if_pos f6] at h
    simp -implicitDefEqProofs only [go_sem, seval, f2, f4, f6, hq]
    obtain rfl := sI h
    refine X_ret ?_
    simp -implicitDefEqProofs only [go_sem, seval, f2, f4, f6, hq]
    exact Rt.mv0 (BaseR.refl hob) (by simp) (vS)
  ·rw [if_pos f4] at h
   simp -implicitDefEqProofs only [go_sem, seval, f2, f4, hq]
   obtain rfl := sI h
   refine X_ret ?_
   simp -implicitDefEqProofs only [go_sem, seval, f2, f4, hq]
   exact Rt.mv0 (BaseR.refl hob) (by simp) (vS)
 ·rw [if_pos f2] at h
  simp -implicitDefEqProofs only [go_sem, seval, f2, hq]
  obtain rfl := sI h
  refine X_ret ?_
  simp -implicitDefEqProofs only [go_sem, seval, f2, hq]
  exact Rt.mv0 (BaseR.refl hob) (by simp) (vS)
end Go.Pf
end
section
set_option maxRecDepth 100000
namespace Go.Pf
open Go Go.Ab Go.Pp Go.Proofs Go.Proofs.S08
attribute [local go_sem] Lxτ Lxγ gam0 gam1 Int.toNat_natCast tau3 tau22 tau24 tau25 tau27 tau33 tau35 tau36 tau38 eI eB eS e_Ins e_Block e_Func e_Prog e_kind_state eL_Intu64
set_option maxHeartbeats 1000000 in
theorem shape_numbers_ok (γ : GT) (ob : OT) {a0 : Prog} {v0_0 : V} {a1 : Ins} {v1_6 : V} (hv0_0 : rdK (getO ob) 5 v0_0 = some (List.map e_Func a0.Funcs)) (hv1_6 : rdK (getO ob) 1 v1_6 = some (List.map (eI .i64) a1.Args)) {r : Bool} (h : shape_numbers a0 a1 = some r) :
  Valid (Lx γ) 58 [V.agg [v0_0], V.agg [vint .i64 a1.Op, vint .i64 a1.D, vint .i64 a1.A, vint .i64 a1.B, vint .i64 a1.N, vint .i64 a1.M, v1_6]] ob (vbool r) ob := by
 refine valid_X (lx_ok γ) (fn := Tryd.f58) (rs := [.tmp 4]) Tryd.func58 (by kernel_rfl) rfl rfl Tryd.ntmps58 rfl (by simp) fun hb hob => ?_
 have hq := And.intro (rd4 hv0_0) (rd4 hv1_6)
 rw [shape_numbers] at h
 refine X_sr (lx_ok γ) ?_
 simp -implicitDefEqProofs only [go_sem, seval, hq]
 refine X_seq ?_
 refine X_sr (lx_ok γ) ?_
 simp -implicitDefEqProofs only [go_sem, seval, hq]
 refine X_block ?_
 refine X_sr (lx_ok γ) ?_
 simp -implicitDefEqProofs only [go_sem, seval, hq]
 cases f1 : (a1.Op == 19)
 ·rw [if_neg (nF f1)] at h
  refine X_cond (lx_ok γ) ?_
  simp -implicitDefEqProofs only [go_sem, seval, f1, hq]
  refine X_sr (lx_ok γ) ?_
  simp -implicitDefEqProofs only [go_sem, seval, f1, hq]
  cases f2 : (a1.Op == 1)
  ·rw [if_neg (nF f2)] at h
   refine X_cond (lx_ok γ) ?_
   simp -implicitDefEqProofs only [go_sem, seval, f1, f2, hq]
   refine X_sr (lx_ok γ) ?_
   simp -implicitDefEqProofs only [go_sem, seval, f1, f2, hq]
   cases f3 : (a1.Op == 16)
   ·rw [if_neg (nF f3)] at h
    refine X_cond (lx_ok γ) ?_
    simp -implicitDefEqProofs only [go_sem, seval, f1, f2, f3, hq]
    refine X_sr (lx_ok γ) ?_
    simp -implicitDefEqProofs only [go_sem, seval, f1, f2, f3, hq]
    cases f4 : (a1.Op == 10)
    ·rw [if_neg (nF f4)] at h
     refine X_cond (lx_ok γ) ?_
     simp -implicitDefEqProofs only [go_sem, seval, f1, f2, f3, f4, hq]
     refine X_seq ?_
     refine X_jq (J := fun as1 ob1 => ∃ (x5 : Bool), shape_numbers.j1 a1 x5 = some r ∧ [(3, V.ref ob.length 0), (49, vbool x5)] = as1 ∧ ob ++ [some (O.box [vint .i64 a1.Op, vint .i64 a1.D, vint .i64 a1.A, vint .i64 a1.B, vint .i64 a1.N, vint .i64 a1.M, v1_6])] = ob1) ?_ ?_
     ·rintro as1 ob1 ⟨x5, h, rfl, rfl⟩
      rw [shape_numbers.j1] at h
      simp -implicitDefEqProofs only [go_sem, seval, f1, f2, f3, f4, hq]
      cases f5 : x5
      ·rw [if_neg (nF f5)] at h
       refine X_cond (lx_ok γ) ?_
       simp -implicitDefEqProofs only [go_sem, seval, f1, f2, f3, f4, f5, hq]
       refine X_skip ?_
       try simp -implicitDefEqProofs only [go_sem]
       refine X_sr (lx_ok γ) ?_
       simp -implicitDefEqProofs only [go_sem, seval, f1, f2, f3, f4, f5, hq]
       obtain rfl := sI h
       refine X_ret ?_
       simp -implicitDefEqProofs only [go_sem, seval, f1, f2, f3, f4, f5, hq]
       exact Rt.mv0 (BaseR.refl hob) (by simp) (vS)
      ·rw [if_pos f5] at h
       refine X_cond (lx_ok γ) ?_
       simp -implicitDefEqProofs only [go_sem, seval, f1, f2, f3, f4, f5, hq]
       refine X_sr (lx_ok γ) ?_
       obtain ⟨x6, f6, h⟩ := bindE h
       simp -implicitDefEqProofs only [go_sem, seval, f1, f2, f3, f4, f5, hq]
       refine callV_eq (shape_within_ok γ _  f6) rfl rfl ?_
       simp -implicitDefEqProofs only [go_sem, seval, f1, f2, f3, f4, f5, hq]
       obtain rfl := sI h
       refine X_ret ?_
       simp -implicitDefEqProofs only [go_sem, seval, f1, f2, f3, f4, f5, hq]
       exact Rt.mv0 (BaseR.refl hob) (by simp) (vS)
     ·refine X_sr (lx_ok γ) ?_
      simp -implicitDefEqProofs only [go_sem, seval, f1, f2, f3, f4, hq]
      cases f7 : (a1.Op == 11)
      ·rw [if_neg (nF f7)] at h
       refine X_cond (lx_ok γ) ?_
       simp -implicitDefEqProofs only [go_sem, seval, f1, f2, f3, f4, f7, hq]
       refine X_sr (lx_ok γ) ?_
       simp -implicitDefEqProofs only [go_sem, seval, f1, f2, f3, f4, f7, hq]
       cases f8 : (a1.Op == 12)
       ·rw [if_neg (nF f8)] at h
        refine X_cond (lx_ok γ) ?_
        simp -implicitDefEqProofs only [go_sem, seval, f1, f2, f3, f4, f7, f8, hq]
        refine X_sr (lx_ok γ) ?_
        simp -implicitDefEqProofs only [go_sem, seval, f1, f2, f3, f4, f7, f8, hq]
        cases f9 : (a1.Op == 13)
        ·rw [if_neg (nF f9)] at h
         refine X_cond (lx_ok γ) ?_
         simp -implicitDefEqProofs only [go_sem, seval, f1, f2, f3, f4, f7, f8, f9, hq]
         refine X_sr (lx_ok γ) ?_
         simp -implicitDefEqProofs only [go_sem, seval, f1, f2, f3, f4, f7, f8, f9, hq]
         cases f10 : (a1.Op == 14)
         ·rw [if_neg (nF f10)] at h
          refine X_cond (lx_ok γ) ?_
          simp -implicitDefEqProofs only [go_sem, seval, f1, f2, f3, f4, f7, f8, f9, f10, hq]
          refine X_reg (lx_ok γ) ?_
          simp -implicitDefEqProofs only [go_sem, seval, f1, f2, f3, f4, f7, f8, f9, f10, hq]
          refine kJ_in ?_ ⟨(a1.Op == 15), h, rfl, rfl⟩
          exact To.mv [(1, 0)] (BaseR.refl hob) (by simp) (by decide) (by simp only [go_sem]; exact ⟨VM.refA (j := 1) (t := 0) rfl, vS⟩) ⟨⟨_, rfl, OM.box _ _ ⟨vS, vS, vS, vS, vS, vS, VM.self (by simpa using Bd.of_rdK hv1_6), trivial⟩⟩, trivial⟩
         ·rw [if_pos f10] at h
          refine X_cond (lx_ok γ) ?_
          simp -implicitDefEqProofs only [go_sem, seval, f1, f2, f3, f4, f7, f8, f9, f10, hq]
          refine X_skip ?_
          try simp -implicitDefEqProofs only [go_sem]
          refine kJ_in ?_ ⟨true, h, rfl, rfl⟩
          exact To.mv [(1, 0)] (BaseR.refl hob) (by simp) (by decide) (by simp only [go_sem]; exact ⟨VM.refA (j := 1) (t := 0) rfl, vS⟩) ⟨⟨_, rfl, OM.box _ _ ⟨vS, vS, vS, vS, vS, vS, VM.self (by simpa using Bd.of_rdK hv1_6), trivial⟩⟩, trivial⟩
        ·rw [if_pos f9] at h
         refine X_cond (lx_ok γ) ?_
         simp -implicitDefEqProofs only [go_sem, seval, f1, f2, f3, f4, f7, f8, f9, hq]
         refine X_skip ?_
         try simp -implicitDefEqProofs only [go_sem]
         refine kJ_in ?_ ⟨true, h, rfl, rfl⟩
         exact To.mv [(1, 0)] (BaseR.refl hob) (by simp) (by decide) (by simp only [go_sem]; exact ⟨VM.refA (j := 1) (t := 0) rfl, vS⟩) ⟨⟨_, rfl, OM.box _ _ ⟨vS, vS, vS, vS, vS, vS, VM.self (by simpa using Bd.of_rdK hv1_6), trivial⟩⟩, trivial⟩
       ·rw [if_pos f8] at h
        refine X_cond (lx_ok γ) ?_
        simp -implicitDefEqProofs only [go_sem, seval, f1, f2, f3, f4, f7, f8, hq]
        refine X_skip ?_
        try simp -implicitDefEqProofs only [go_sem]
        refine kJ_in ?_ ⟨true, h, rfl, rfl⟩
        exact To.mv [(1, 0)] (BaseR.refl hob) (by simp) (by decide) (by simp only [go_sem]; exact ⟨VM.refA (j := 1) (t := 0) rfl, vS⟩) ⟨⟨_, rfl, OM.box _ _ ⟨vS, vS, vS, vS, vS, vS, VM.self (by simpa using Bd.of_rdK hv1_6), trivial⟩⟩, trivial⟩
      ·rw [if_pos f7] at h
       refine X_cond (lx_ok γ) ?_
       simp -implicitDefEqProofs only [go_sem, seval, f1, f2, f3, f4, f7, hq]
       refine X_skip ?_
       try simp -implicitDefEqProofs only [go_sem]
       refine kJ_in ?_ ⟨true, h, rfl, rfl⟩
       exact To.mv [(1, 0)] (BaseR.refl hob) (by simp) (by decide) (by simp only [go_sem]; exact ⟨VM.refA (j := 1) (t := 0) rfl, vS⟩) ⟨⟨_, rfl, OM.box _ _ ⟨vS, vS, vS, vS, vS, vS, VM.self (by simpa using Bd.of_rdK hv1_6), trivial⟩⟩, trivial⟩
    ·rw [if_pos f4] at h
     refine X_cond (lx_ok γ) ?_
     simp -implicitDefEqProofs only [go_sem, seval, f1, f2, f3, f4, hq]
     refine X_sr (lx_ok γ) ?_
     obtain ⟨x7, f11, h⟩ := bindE h
     simp -implicitDefEqProofs only [go_sem, seval, f1, f2, f3, f4, hq]
     refine callV_eq (shape_within_ok γ _  f11) rfl rfl ?_
     cases f12 : x7
     ·rw [if_neg (nF f12)] at h
      simp -implicitDefEqProofs only [go_sem, seval, f1, f2, f3, f4, f12, hq]
      obtain rfl := sI h
      refine X_ret ?_
      simp -implicitDefEqProofs only [go_sem, seval, f1, f2, f3, f4, f12, hq]
      exact Rt.mv0 (BaseR.refl hob) (by simp) (vS)
     ·rw [if_pos f12] at h
      obtain ⟨x8, f13, h⟩ := bindE h
      simp -implicitDefEqProofs only [go_sem, seval, f1, f2, f3, f4, f12, hq]
      refine callV_eq (shape_within_ok γ _  f13) rfl rfl ?_
      simp -implicitDefEqProofs only [go_sem, seval, f1, f2, f3, f4, f12, hq]
      obtain rfl := sI h
      refine X_ret ?_
      simp -implicitDefEqProofs only [go_sem, seval, f1, f2, f3, f4, f12, hq]
      exact Rt.mv0 (BaseR.refl hob) (by simp) (vS)
   ·rw [if_pos f3] at h
    refine X_cond (lx_ok γ) ?_
    simp -implicitDefEqProofs only [go_sem, seval, f1, f2, f3, hq]
    refine X_sr (lx_ok γ) ?_
    obtain ⟨x9, f14, h⟩ := bindE h
    simp -implicitDefEqProofs only [go_sem, seval, f1, f2, f3, hq]
    refine callV_eq (shape_within_ok γ _  f14) rfl rfl ?_
    simp -implicitDefEqProofs only [go_sem, seval, f1, f2, f3, hq]
    obtain rfl := sI h
    refine X_ret ?_
    simp -implicitDefEqProofs only [go_sem, seval, f1, f2, f3, hq]
    exact Rt.mv0 (BaseR.refl hob) (by simp) (vS)
  ·rw [if_pos f2] at h
   refine X_cond (lx_ok γ) ?_
   simp -implicitDefEqProofs only [go_sem, seval, f1, f2, hq]
   refine X_sr (lx_ok γ) ?_
   obtain ⟨x10, f15, h⟩ := bindE h
   simp -implicitDefEqProofs only [go_sem, seval, f1, f2, hq]
   refine callV_eq (shape_within_ok γ _  f15) rfl rfl ?_
   simp -implicitDefEqProofs only [go_sem, seval, f1, f2, hq]
   obtain rfl := sI h
   refine X_ret ?_
   simp -implicitDefEqProofs only [go_sem, seval, f1, f2, hq]
   exact Rt.mv0 (BaseR.refl hob) (by simp) (vS)
 ·rw [if_pos f1] at h
  refine X_cond (lx_ok γ) ?_
  simp -implicitDefEqProofs only [go_sem, seval, f1, hq]
  refine X_seq ?_
  refine X_drawn (lx_ok γ) [[], [0], [], [2], [2, 3], [2, 3, 4], [0, 1, 2, 3, 4, 5], [0, 1, 2, 3, 4, 5, 6], [0, 1, 2, 3, 4, 5, 6, 7], [0, 1, 2, 3, 4, 5, 6, 7, 8], [0, 1, 2, 3, 4, 5, 6, 7, 8, 9], [0, 1, 2, 3, 4, 5, 6, 7], [0, 1, 2, 3, 4, 5, 6, 7, 11], [0, 1, 2, 3, 4, 5, 6, 7], [0, 1, 2, 3, 4, 5, 6, 7, 13], [0, 1, 2, 3, 4, 5, 6, 7, 11, 12, 13, 14], [0, 1, 2, 3, 4, 5, 6, 7, 11, 12, 13, 14, 15], [0, 1, 2, 3, 4, 5, 6, 7, 11, 12, 13, 14, 15, 16], [0, 1, 2, 3, 4, 5, 6, 7, 8, 9, 10, 11, 12, 13, 14, 15, 16, 17], [0, 1, 2, 3, 4, 5, 6, 7, 8, 9, 10, 11, 12, 13, 14, 15, 16, 17, 18], [0, 1, 2, 3, 4, 5, 6, 7, 8, 9, 10, 11, 12, 13, 14, 15, 16, 17, 18, 19]] (fun i => match i with | _ => false) (by kernel_rfl) ?_
  obtain ⟨x11, f16, h⟩ := bindE h
  try simp -implicitDefEqProofs only [go_sem, seval, f1, hq, cmpr, List.getD_cons_zero, List.getD_cons_succ, List.contains_cons, List.contains_nil, Nat.reduceBEq, Bool.false_or, Bool.or_false, Bool.true_or, Bool.or_true, beq_self_eq_true]
  refine callV_eq (shape_within_ok γ _  f16) rfl rfl ?_
  cases f17 : x11
  ·rw [if_neg (nF f17)] at h
   try simp -implicitDefEqProofs only [go_sem, seval, f1, f17, hq, cmpr, List.getD_cons_zero, List.getD_cons_succ, List.contains_cons, List.contains_nil, Nat.reduceBEq, Bool.false_or, Bool.or_false, Bool.true_or, Bool.or_true, beq_self_eq_true]
   obtain rfl := sI h
   refine X_ret ?_
   simp -implicitDefEqProofs only [go_sem, seval, f1, f17, hq]
   exact Rt.mv0 (BaseR.refl hob) (by simp) (vS)
  ·rw [if_pos f17] at h
   obtain ⟨x12, f18, h⟩ := bindE h
   obtain ⟨f19, f20, f21⟩ := ixL_some f18
   try simp only [Int.toNat_natCast, Int.reduceToNat] at f21
   try simp -implicitDefEqProofs only [go_sem, seval, f1, f17, hq, f19, f20, f21, cmpr, List.getD_cons_zero, List.getD_cons_succ, List.contains_cons, List.contains_nil, Nat.reduceBEq, Bool.false_or, Bool.or_false, Bool.true_or, Bool.or_true, beq_self_eq_true]
   obtain rfl := sI h
   refine X_ret ?_
   simp -implicitDefEqProofs only [go_sem, seval, f1, f17, hq, f19, f20, f21]
   exact Rt.mv0 (BaseR.refl hob) (by simp) (vS)
end Go.Pf
end
section
set_option maxRecDepth 100000
namespace Go.Pf
open Go Go.Ab Go.Pp Go.Proofs Go.Proofs.S08
attribute [local go_sem] Lxτ Lxγ gam0 gam1 Int.toNat_natCast tau3 tau5 tau9 eI eB eS e_Ins e_Block e_Func e_Prog e_kind_state eL_Intu64
set_option maxHeartbeats 1000000 in
theorem code_letters_ok (γ : GT) (ob : OT) {a0 : Int} {a1 : Int} {r : Bool} (h : code_letters a0 a1 = some r) :
  Valid (Lx γ) 84 [vint .i64 a0, vint .u8 a1] ob (vbool r) ob := by
 refine valid_X (lx_ok γ) (fn := Tryd.f84) (rs := [.tmp 4]) Tryd.func84 (by kernel_rfl) rfl rfl Tryd.ntmps84 rfl (by simp) fun hb hob => ?_
 rw [code_letters] at h
 refine X_sr (lx_ok γ) ?_
 simp -implicitDefEqProofs only [go_sem, seval]
 refine X_sr (lx_ok γ) ?_
 obtain ⟨x1, f1, h⟩ := bindE h
 simp -implicitDefEqProofs only [go_sem, seval]
 refine callV_eq (code_Parts_ok γ _  f1) rfl rfl ?_
 obtain ⟨x2, f2, h⟩ := bindE h
 simp -implicitDefEqProofs only [go_sem, seval]
 refine callV_eq (strings_IndexByte_ok γ _  f2) rfl rfl ?_
 simp -implicitDefEqProofs only [go_sem, seval]
 obtain rfl := sI h
 refine X_ret ?_
 simp -implicitDefEqProofs only [go_sem, seval]
 exact Rt.mv1 (BaseR.refl hob) (by simp) (vS)
end Go.Pf
end
section
set_option maxRecDepth 100000
namespace Go.Pf
open Go Go.Ab Go.Pp Go.Proofs Go.Proofs.S08
attribute [local go_sem] Lxτ Lxγ gam0 gam1 Int.toNat_natCast tau3 tau5 eI eB eS e_Ins e_Block e_Func e_Prog e_kind_state eL_Intu64
set_option maxHeartbeats 1000000 in
theorem code_Sets_ok (γ : GT) (ob : OT) {a0 : Int} {r : Bool} (h : code_Sets a0 = some r) :
  Valid (Lx γ) 78 [vint .i64 a0] ob (vbool r) ob := by
 refine valid_X (lx_ok γ) (fn := Tryd.f78) (rs := [.tmp 2]) Tryd.func78 (by kernel_rfl) rfl rfl Tryd.ntmps78 rfl (by simp) fun hb hob => ?_
 rw [code_Sets] at h
 refine X_sr (lx_ok γ) ?_
 simp -implicitDefEqProofs only [go_sem, seval]
 refine X_sr (lx_ok γ) ?_
 obtain ⟨x1, f1, h⟩ := bindE h
 simp -implicitDefEqProofs only [go_sem, seval]
 refine callV_eq (code_letters_ok γ _  f1) rfl rfl ?_
 simp -implicitDefEqProofs only [go_sem, seval]
 obtain rfl := sI h
 refine X_ret ?_
 simp -implicitDefEqProofs only [go_sem, seval]
 exact Rt.mv1 (BaseR.refl hob) (by simp) (vS)
end Go.Pf
end
section
set_option maxRecDepth 100000
namespace Go.Pf
open Go Go.Ab Go.Pp Go.Proofs Go.Proofs.S08
attribute [local go_sem] Lxτ Lxγ gam0 gam1 Int.toNat_natCast tau3 tau4 tau25 tau27 eI eB eS e_Ins e_Block e_Func e_Prog e_kind_state eL_Intu64
set_option maxHeartbeats 1000000 in
theorem shape_Sets_ok (γ : GT) (ob : OT) {a0 : Ins} {v0_6 : V} (hv0_6 : rdK (getO ob) 1 v0_6 = some (List.map (eI .i64) a0.Args)) {r : Int × Bool} (h : shape_Sets a0 = some r) :
  Valid (Lx γ) 59 [V.agg [vint .i64 a0.Op, vint .i64 a0.D, vint .i64 a0.A, vint .i64 a0.B, vint .i64 a0.N, vint .i64 a0.M, v0_6]] ob (V.tup [vint .i64 r.1, vbool r.2]) ob := by
 refine valid_X (lx_ok γ) (fn := Tryd.f59) (rs := [.tmp 2, .tmp 3]) Tryd.func59 (by kernel_rfl) rfl rfl Tryd.ntmps59 rfl (by simp) fun hb hob => ?_
 have hq := rd4 hv0_6
 rw [shape_Sets] at h
 refine X_sr (lx_ok γ) ?_
 simp -implicitDefEqProofs only [go_sem, seval, hq]
 refine X_seq ?_
 refine X_sr (lx_ok γ) ?_
 obtain ⟨x1, f1, h⟩ := bindE h
 simp -implicitDefEqProofs only [go_sem, seval, hq]
 refine callV_eq (code_Sets_ok γ _  f1) rfl rfl ?_
 simp -implicitDefEqProofs only [go_sem, seval, hq]
 cases f2 : x1
 ·rw [if_neg (nF f2)] at h
  refine X_cond (lx_ok γ) ?_
  simp -implicitDefEqProofs only [go_sem, seval, f2, hq]
  refine X_sr (lx_ok γ) ?_
  simp -implicitDefEqProofs only [go_sem, seval, f2, hq]
  obtain rfl := sI h
  refine X_ret ?_
  simp -implicitDefEqProofs only [go_sem, seval, f2, hq]
  exact Rt.mv0 (BaseR.refl hob) (by simp) (VM.tup ⟨vS, vS, trivial⟩)
 ·rw [if_pos f2] at h
  refine X_cond (lx_ok γ) ?_
  simp -implicitDefEqProofs only [go_sem, seval, f2, hq]
  refine X_skip ?_
  try simp -implicitDefEqProofs only [go_sem]
  refine X_sr (lx_ok γ) ?_
  simp -implicitDefEqProofs only [go_sem, seval, f2, hq]
  obtain rfl := sI h
  refine X_ret ?_
  simp -implicitDefEqProofs only [go_sem, seval, f2, hq]
  exact Rt.mv0 (BaseR.refl hob) (by simp) (VM.tup ⟨vS, vS, trivial⟩)
end Go.Pf
end
section
set_option maxRecDepth 100000
namespace Go.Pf
open Go Go.Ab Go.Pp Go.Proofs Go.Proofs.S08
attribute [local go_sem] Lxτ Lxγ gam0 gam1 Int.toNat_natCast tau3 tau4 tau25 tau27 tau33 tau35 tau36 tau38 eI eB eS e_Ins e_Block e_Func e_Prog e_kind_state eL_Intu64
set_option maxHeartbeats 1000000 in
theorem shape_Ins_1_ok (γ : GT) (ob : OT) {a0 : Int} {o1 : Nat} {a1 : Func} (hx1 : getO ob o1 = some (O.box [V.tr (.sl 1 false (List.map (eI .i64) a1.Kinds)), V.tr (.sl 1 false (List.map (eI .i64) a1.Base)), vint .i64 a1.Params, vint .i64 a1.Result, V.tr (.sl 1 false (List.map e_Block a1.Blocks))])) {r : Bool} (h : shape_Ins_1 a0 a1 = some r) :
  Valid (Lx γ) 60 [vint .i64 a0, V.ref o1 0] ob (vbool r) ob := by
 refine valid_X (lx_ok γ) (fn := Tryd.f60) (rs := [.tmp 3]) Tryd.func60 (by kernel_rfl) rfl rfl Tryd.ntmps60 rfl (by simp) fun hb hob => ?_
 have hoa1 := getO_lt hx1
 rw [shape_Ins_1] at h
 refine X_sr (lx_ok γ) ?_
 simp -implicitDefEqProofs only [go_sem, seval, hx1, getO_ext hx1]
 refine X_sr (lx_ok γ) ?_
 obtain ⟨x1, f1, h⟩ := bindE h
 simp -implicitDefEqProofs only [go_sem, seval, hx1, getO_ext hx1]
 refine callV_eq (shape_within_ok γ _  f1) rfl rfl ?_
 simp -implicitDefEqProofs only [go_sem, seval, hx1, getO_ext hx1]
 obtain rfl := sI h
 refine X_ret ?_
 simp -implicitDefEqProofs only [go_sem, seval, hx1, getO_ext hx1]
 exact Rt.mv1 (BaseR.refl hob) (by simp) (vS)
end Go.Pf
end
section
set_option maxRecDepth 100000
namespace Go.Pf
open Go Go.Ab Go.Pp Go.Proofs Go.Proofs.S08
attribute [local go_sem] Lxτ Lxγ gam0 gam1 Int.toNat_natCast tau3 tau4 tau25 tau27 tau33 tau35 tau36 tau38 eI eB eS e_Ins e_Block e_Func e_Prog e_kind_state eL_Intu64
set_option maxHeartbeats 1000000 in
theorem shape_Ins_2_ok (γ : GT) (ob : OT) {a0 : Int} {o1 : Nat} {a1 : Func} (hx1 : getO ob o1 = some (O.box [V.tr (.sl 1 false (List.map (eI .i64) a1.Kinds)), V.tr (.sl 1 false (List.map (eI .i64) a1.Base)), vint .i64 a1.Params, vint .i64 a1.Result, V.tr (.sl 1 false (List.map e_Block a1.Blocks))])) {r : Bool} (h : shape_Ins_2 a0 a1 = some r) :
  Valid (Lx γ) 61 [vint .i64 a0, V.ref o1 0] ob (vbool r) ob := by
 refine valid_X (lx_ok γ) (fn := Tryd.f61) (rs := [.tmp 3]) Tryd.func61 (by kernel_rfl) rfl rfl Tryd.ntmps61 rfl (by simp) fun hb hob => ?_
 have hoa1 := getO_lt hx1
 rw [shape_Ins_2] at h
 refine X_sr (lx_ok γ) ?_
 simp -implicitDefEqProofs only [go_sem, seval, hx1, getO_ext hx1]
 refine X_sr (lx_ok γ) ?_
 obtain ⟨x1, f1, h⟩ := bindE h
 simp -implicitDefEqProofs only [go_sem, seval, hx1, getO_ext hx1]
 refine callV_eq (shape_within_ok γ _  f1) rfl rfl ?_
 simp -implicitDefEqProofs only [go_sem, seval, hx1, getO_ext hx1]
 obtain rfl := sI h
 refine X_ret ?_
 simp -implicitDefEqProofs only [go_sem, seval, hx1, getO_ext hx1]
 exact Rt.mv1 (BaseR.refl hob) (by simp) (vS)
end Go.Pf
end
section
set_option maxRecDepth 100000
namespace Go.Pf
open Go Go.Ab Go.Pp Go.Proofs Go.Proofs.S08
attribute [local go_sem] Lxτ Lxγ gam0 gam1 Int.toNat_natCast tau3 tau25 eI eB eS e_Ins e_Block e_Func e_Prog e_kind_state eL_Intu64
set_option maxHeartbeats 1000000 in
theorem slices_IndexFunc_int_ok (γ : GT) (ob : OT) {a0 : List Int} {v0 : V} {a1 : Int → Option (Bool)} {w1 : V} (hv0 : rdK (getO ob) 1 v0 = some (List.map (eI .i64) a0)) (hf1 : ∀ (ob1 : OT), ob <+: ob1 → ∀ (y0 : Int) (r : Bool), a1 y0 = some r → FnV (Lx γ) w1 [vint .i64 y0] ob1 (vbool r) ob1) {r : Int} (h : slices_IndexFunc_int a0 a1 = some r) :
  Valid (Lx γ) 79 [v0, w1] ob (vint .i64 r) ob := by
 refine valid_X (lx_ok γ) (fn := Tryd.f79) (rs := [.tmp 4]) Tryd.func79 (by kernel_rfl) rfl rfl Tryd.ntmps79 rfl (by simp) fun hb hob => ?_
 have hq := rd4 hv0
 rw [slices_IndexFunc_int] at h
 refine X_sr (lx_ok γ) ?_
 simp -implicitDefEqProofs only [go_sem, seval, hq]
 refine X_seq ?_
 refine X_sr (lx_ok γ) ?_
 simp -implicitDefEqProofs only [go_sem, seval, hq]
 refine X_jq (J := fun as1 ob1 => slices_IndexFunc_int.k1 = some r ∧ [] = as1 ∧ ob = ob1) ?_ ?_
 ·rintro as1 ob1 ⟨h, rfl, rfl⟩
  rw [slices_IndexFunc_int.k1] at h
  simp -implicitDefEqProofs only [go_sem, seval, hq]
  refine X_sr (lx_ok γ) ?_
  simp -implicitDefEqProofs only [go_sem, seval, hq]
  obtain rfl := sI h
  refine X_ret ?_
  simp -implicitDefEqProofs only [go_sem, seval, hq]
  exact Rt.mv1 (BaseR.refl hob) (by simp) (vS)
 ·refine X_block ?_
  obtain ⟨lr1, hl1, hk1, hr1⟩ := aft2 h
  refine X_forN hl1 (fun (i1 : Nat) (s : Unit) as1 ob1 => [(0, v0), (1, w1), (7, vint .i64 (List.length a0 : Int)), (8, vint .i64 (i1 : Int))] = as1 ∧ ob = ob1) ⟨_, _, ?_, rfl, rfl⟩ ?_ ?_
  ·exact To.mv1 (BaseR.refl hob) (by simp) (by simp only [go_sem]; exact ⟨VM.self (by simpa using Bd.of_rdK hv0), VM.self (by simpa using hb w1 (by simp)), vS, VM.eqv (by simp) (by simp)⟩)
  ·rintro i1 _ o1 hi1 hw1 h ho1 as1 ob1 ⟨rfl, rfl⟩
   rw [slices_IndexFunc_int.b1] at h
   refine X_sr (lx_ok γ) ?_
   simp -implicitDefEqProofs only [go_sem, seval, hi1, hq]
   refine X_seq ?_
   refine X_cond (lx_ok γ) ?_
   simp -implicitDefEqProofs only [go_sem, seval, hi1, hq]
   refine X_skip ?_
   try simp -implicitDefEqProofs only [go_sem]
   refine X_seq ?_
   refine X_block ?_
   refine X_sr (lx_ok γ) ?_
   simp -implicitDefEqProofs only [go_sem, seval, hi1, hq]
   refine X_sr (lx_ok γ) ?_
   obtain ⟨x2, f1, h⟩ := bindE h
   obtain ⟨f2, f3⟩ := ixL_nat f1
   have f4 : (0 : Int) ≤ (i1 : Int) := Int.natCast_nonneg _
   obtain ⟨x3, f5, h⟩ := bindE h
   simp -implicitDefEqProofs only [go_sem, seval, hi1, hq, f2, f3, f4]
   refine callV_fn (hf1 _ List.prefix_rfl _ _ f5) rfl rfl ?_
   simp -implicitDefEqProofs only [go_sem, seval, hi1, hq, f2, f3, f4]
   cases f6 : x3
   ·rw [if_neg (nF f6)] at h
    refine X_cond (lx_ok γ) ?_
    simp -implicitDefEqProofs only [go_sem, seval, hi1, f6, hq, f2, f3, f4]
    refine X_skip ?_
    try simp -implicitDefEqProofs only [go_sem]
    refine X_reg (lx_ok γ) ?_
    obtain rfl := sI h
    simp -implicitDefEqProofs only [go_sem, seval, hi1, f6, hq]
    refine kR_in rfl ?_ ⟨rfl, rfl⟩
    exact To.mv1 (BaseR.refl hob) (by simp) (by simp only [go_sem]; exact ⟨VM.self (by simpa using Bd.of_rdK hv0), VM.self (by simpa using hb w1 (by simp)), vS, VM.eqv (by rw [hw1]) (by simp)⟩)
   ·rw [if_pos f6] at h
    refine X_cond (lx_ok γ) ?_
    simp -implicitDefEqProofs only [go_sem, seval, hi1, f6, hq, f2, f3, f4]
    refine X_sr (lx_ok γ) ?_
    simp -implicitDefEqProofs only [go_sem, seval, hi1, f6, hq]
    obtain rfl := sI h
    have h := hr1 _ (ho1 (fun _ hs => nomatch hs))
    obtain rfl := sI h
    refine X_ret ?_
    simp -implicitDefEqProofs only [go_sem, seval, hi1, f6, hq]
    exact Rt.mv1 (BaseR.refl hob) (by simp) (vS)
  ·rintro i1 _ hi1 hn1 as1 ob1 ⟨rfl, rfl⟩
   refine X_sr (lx_ok γ) ?_
   simp -implicitDefEqProofs only [go_sem, seval, hi1, hq]
   refine X_seq ?_
   refine X_cond (lx_ok γ) ?_
   simp -implicitDefEqProofs only [go_sem, seval, hi1, hq]
   have h := hk1 _ (.inl hn1)
   refine X_exit ?_
   try simp -implicitDefEqProofs only [go_sem, ↓reduceIte, Nat.reduceEqDiff, reduceCtorEq]
   refine kJ_in ?_ ⟨h, rfl, rfl⟩
   exact To.mv1 (BaseR.refl hob) (by simp) trivial
end Go.Pf
end
section
set_option maxRecDepth 100000
namespace Go.Pf
open Go Go.Ab Go.Pp Go.Proofs Go.Proofs.S08
attribute [local go_sem] Lxτ Lxγ gam0 gam1 Int.toNat_natCast tau3 tau25 tau67 eI eB eS e_Ins e_Block e_Func e_Prog e_kind_state eL_Intu64
set_option maxHeartbeats 1000000 in
theorem slices_ContainsFunc_int_ok (γ : GT) (ob : OT) {a0 : List Int} {v0 : V} {a1 : Int → Option (Bool)} {w1 : V} (hv0 : rdK (getO ob) 1 v0 = some (List.map (eI .i64) a0)) (hf1 : ∀ (ob1 : OT), ob <+: ob1 → ∀ (y0 : Int) (r : Bool), a1 y0 = some r → FnV (Lx γ) w1 [vint .i64 y0] ob1 (vbool r) ob1) {r : Bool} (h : slices_ContainsFunc_int a0 a1 = some r) :
  Valid (Lx γ) 62 [v0, w1] ob (vbool r) ob := by
 refine valid_X (lx_ok γ) (fn := Tryd.f62) (rs := [.tmp 4]) Tryd.func62 (by kernel_rfl) rfl rfl Tryd.ntmps62 rfl (by simp) fun hb hob => ?_
 have hq := rd4 hv0
 rw [slices_ContainsFunc_int] at h
 refine X_sr (lx_ok γ) ?_
 simp -implicitDefEqProofs only [go_sem, seval, hq]
 refine X_sr (lx_ok γ) ?_
 obtain ⟨x1, f1, h⟩ := bindE h
 simp -implicitDefEqProofs only [go_sem, seval, hq]
 refine callV_eq (slices_IndexFunc_int_ok γ _ (by first | exact rdK_app hv0 | exact hv0) hf1 f1) rfl rfl ?_
 simp -implicitDefEqProofs only [go_sem, seval, hq]
 obtain rfl := sI h
 refine X_ret ?_
 simp -implicitDefEqProofs only [go_sem, seval, hq]
 exact Rt.mv1 (BaseR.refl hob) (by simp) (vS)
end Go.Pf
end
section
set_option maxRecDepth 100000
namespace Go.Pf
open Go Go.Ab Go.Pp Go.Proofs Go.Proofs.S08
attribute [local go_sem] Lxτ Lxγ gam0 gam1 Int.toNat_natCast  eI eB eS e_Ins e_Block e_Func e_Prog e_kind_state eL_Intu64
theorem slices_Sort_int_ok (γ : GT) (ob : OT) {o ver : Nat} {a0 r : List Int} (hx : getO ob o = some (O.row 1 ver (List.map (eI .i64) a0))) (h : slices_Sort_int a0 = some r) :
  Valid (Lx γ) 80 [V.row o ver 0 (List.length a0)] ob (.tup []) (List.set ob o (some (O.row 1 ver (List.map (eI .i64) r)))) := by
 unfold slices_Sort_int at h
 split at h
 case isFalse => cases h
 rename_i hl
 cases h
 exact Valid.sort (l := a0) ⟨⟨Tryd.f80, Tryd.func80, by kernel_rfl, rfl⟩⟩ hx hl (fun p c w => Tryd.slices_Sort_int_none p c w) (fun b o c zs w h1 h2 h3 => Tryd.slices_Sort_int b o c zs w h1 h2 h3)
theorem slices_Sort_int_len {a0 r : List Int} (h : slices_Sort_int a0 = some r) : List.length a0 = List.length r := by
 unfold slices_Sort_int at h
 split at h
 case isFalse => cases h
 cases h
 simp
end Go.Pf
end
section
set_option maxRecDepth 100000
namespace Go.Pf
open Go Go.Ab Go.Pp Go.Proofs Go.Proofs.S08
attribute [local go_sem] Lxτ Lxγ gam0 gam1 Int.toNat_natCast  eI eB eS e_Ins e_Block e_Func e_Prog e_kind_state eL_Intu64
theorem slices_Compact_int_ok (γ : GT) (ob : OT) {o ver : Nat} {a0 r : List Int} (hx : getO ob o = some (O.row 1 ver (List.map (eI .i64) a0))) (h : slices_Compact_int a0 = some r) :
  Valid (Lx γ) 81 [V.row o ver 0 (List.length a0)] ob (.row o ver 0 (List.length r)) (List.set ob o (some (O.row 1 ver (List.map (eI .i64) r)))) := by
 unfold slices_Compact_int at h
 split at h
 case isFalse => cases h
 rename_i hl
 cases h
 exact Valid.compact (l := a0) ⟨⟨Tryd.f81, Tryd.func81, by kernel_rfl, rfl⟩⟩ hx hl (fun p c w => Tryd.slices_Compact_int_empty p c w) (fun b o c zs w h1 h2 h3 => Tryd.slices_Compact_int b o c zs w h1 h2 h3)
end Go.Pf
end
section
set_option maxRecDepth 100000
namespace Go.Pf
open Go Go.Ab Go.Pp Go.Proofs Go.Proofs.S08
attribute [local go_sem] Lxτ Lxγ gam0 gam1 Int.toNat_natCast tau3 tau25 tau27 eI eB eS e_Ins e_Block e_Func e_Prog e_kind_state eL_Intu64
set_option maxHeartbeats 1000000 in
theorem shape_Next_ok (γ : GT) (ob : OT) {a0 : Ins} {v0_6 : V} (hv0_6 : rdK (getO ob) 1 v0_6 = some (List.map (eI .i64) a0.Args)) {r : List Int} (h : shape_Next a0 = some r) :
  Valid (Lx γ) 63 [V.agg [vint .i64 a0.Op, vint .i64 a0.D, vint .i64 a0.A, vint .i64 a0.B, vint .i64 a0.N, vint .i64 a0.M, v0_6]] ob (V.row ob.length 0 0 (List.length r)) (ob ++ [some (O.row 1 0 (List.map (eI .i64) r))]) := by
 refine valid_X (lx_ok γ) (fn := Tryd.f63) (rs := [.tmp 2]) Tryd.func63 (by kernel_rfl) rfl rfl Tryd.ntmps63 rfl (by simp) fun hb hob => ?_
 have hq := rd4 hv0_6
 rw [shape_Next] at h
 refine X_sr (lx_ok γ) ?_
 simp -implicitDefEqProofs only [go_sem, seval, hq]
 refine X_sr (lx_ok γ) ?_
 simp -implicitDefEqProofs only [go_sem, seval, hq]
 refine X_seq ?_
 refine X_jq (J := fun as1 ob1 => ∃ (x1 : List Int), shape_Next.j1 x1 = some r ∧ [(3, V.row ob.length 0 0 (List.length x1))] = as1 ∧ ob ++ [some (O.row 1 0 (List.map (eI .i64) x1))] = ob1) ?_ ?_
 ·rintro as1 ob1 ⟨x1, h, rfl, rfl⟩
  rw [shape_Next.j1] at h
  simp -implicitDefEqProofs only [go_sem, seval, hq]
  refine X_sr (lx_ok γ) ?_
  obtain ⟨x2, f1, h⟩ := bindE h
  have f2 : List.length x1 = List.length x2 := slices_Sort_int_len f1
  simp -implicitDefEqProofs only [go_sem, seval, hq]
  refine callV_eq (slices_Sort_int_ok γ _ (by simp -implicitDefEqProofs only [go_sem, seval, hq]; try rfl) f1) rfl rfl ?_
  simp -implicitDefEqProofs only [go_sem, seval, hq, f2]
  refine X_sr (lx_ok γ) ?_
  obtain ⟨x3, f3, h⟩ := bindE h
  simp -implicitDefEqProofs only [go_sem, seval, hq, f2]
  refine callV_eq (slices_Compact_int_ok γ _ (by simp -implicitDefEqProofs only [go_sem, seval, hq, f2]; try rfl) f3) rfl rfl ?_
  simp -implicitDefEqProofs only [go_sem, seval, hq, f2]
  obtain rfl := sI h
  refine X_ret ?_
  simp -implicitDefEqProofs only [go_sem, seval, hq, f2]
  exact Rt.mv [(0, 0)] (BaseR.refl hob) (by simp) (by decide) (VM.rowL (j := 0) (t := 0) rfl (by first | rfl | omega | (simp [*]; done) | simp | simp_all)) ⟨⟨_, rfl, OM.row' (by first | rfl | simp_all)⟩, trivial⟩
 ·refine X_sr (lx_ok γ) ?_
  simp -implicitDefEqProofs only [go_sem, seval, hq]
  refine X_block ?_
  refine X_sr (lx_ok γ) ?_
  simp -implicitDefEqProofs only [go_sem, seval, hq]
  cases f4 : (a0.Op == 22)
  ·rw [if_neg (nF f4)] at h
   refine X_cond (lx_ok γ) ?_
   simp -implicitDefEqProofs only [go_sem, seval, f4, hq]
   refine X_sr (lx_ok γ) ?_
   simp -implicitDefEqProofs only [go_sem, seval, f4, hq]
   cases f5 : (a0.Op == 21)
   ·rw [if_neg (nF f5)] at h
    refine X_cond (lx_ok γ) ?_
    simp -implicitDefEqProofs only [go_sem, seval, f4, f5, hq]
    refine X_skip ?_
    try simp -implicitDefEqProofs only [go_sem]
    refine kJ_in ?_ ⟨[], h, rfl, rfl⟩
    exact To.trans (To.gh (as' := [(3, V.row (ob.length + 1) 0 0 0)]) (l' := [some (O.box [_, _, _, _, _, _, _])]) 1 ⟨VG.nilL, trivial⟩ ⟨Or.inl rfl, trivial⟩) (To.mv [(1, 0)] (BaseR.refl hob) (by simp) (by decide) (by simp only [go_sem]; exact VM.rowL (j := 1) (t := 0) rfl (by simp)) ⟨⟨_, rfl, OM.row' rfl⟩, trivial⟩)
   ·rw [if_pos f5] at h
    refine X_cond (lx_ok γ) ?_
    simp -implicitDefEqProofs only [go_sem, seval, f4, f5, hq]
    refine X_reg (lx_ok γ) ?_
    simp -implicitDefEqProofs only [go_sem, seval, f4, f5, hq]
    refine kJ_in ?_ ⟨[a0.N], h, rfl, rfl⟩
    exact To.mv [(1, 0)] (BaseR.refl hob) (by simp) (by decide) (by simp only [go_sem]; exact VM.rowL (j := 1) (t := 0) rfl (by first | rfl | omega | (simp [*]; done) | simp | simp_all)) ⟨⟨_, rfl, OM.row' (by first | rfl | simp_all)⟩, trivial⟩
  ·rw [if_pos f4] at h
   refine X_cond (lx_ok γ) ?_
   simp -implicitDefEqProofs only [go_sem, seval, f4, hq]
   refine X_reg (lx_ok γ) ?_
   simp -implicitDefEqProofs only [go_sem, seval, f4, hq]
   refine kJ_in ?_ ⟨[a0.N, a0.M], h, rfl, rfl⟩
   exact To.mv [(1, 0)] (BaseR.refl hob) (by simp) (by decide) (by simp only [go_sem]; exact VM.rowL (j := 1) (t := 0) rfl (by first | rfl | omega | (simp [*]; done) | simp | simp_all)) ⟨⟨_, rfl, OM.row' (by first | rfl | simp_all)⟩, trivial⟩
end Go.Pf
end
section
set_option maxRecDepth 100000
namespace Go.Pf
open Go Go.Ab Go.Pp Go.Proofs Go.Proofs.S08
attribute [local go_sem] Lxτ Lxγ gam0 gam1 Int.toNat_natCast List.append_eq List.cons_append List.nil_append tau3 tau4 tau9 tau22 tau24 tau25 tau27 tau33 tau35 tau36 tau38 tau67 eI eB eS e_Ins e_Block e_Func e_Prog e_kind_state eL_Intu64
set_option maxHeartbeats 1000000 in
theorem shape_Ins_ok (γ : GT) (ob : OT) {a0 : Prog} {v0_0 : V} {a1 : Int} {a2 : Ins} {v2_6 : V} (hv0_0 : rdK (getO ob) 5 v0_0 = some (List.map e_Func a0.Funcs)) (hv2_6 : rdK (getO ob) 1 v2_6 = some (List.map (eI .i64) a2.Args)) {r : Bool} (h : shape_Ins a0 a1 a2 = some r) :
  Valid (Lx γ) 42 [V.agg [v0_0], vint .i64 a1, V.agg [vint .i64 a2.Op, vint .i64 a2.D, vint .i64 a2.A, vint .i64 a2.B, vint .i64 a2.N, vint .i64 a2.M, v2_6]] ob (vbool r) ob := by
 refine valid_X (lx_ok γ) (fn := Tryd.f42) (rs := [.tmp 6]) Tryd.func42 (by kernel_rfl) rfl rfl Tryd.ntmps42 rfl (by simp) fun hb hob => ?_
 have hq := And.intro (rd4 hv0_0) (rd4 hv2_6)
 rw [shape_Ins] at h
 refine X_sr (lx_ok γ) ?_
 simp -implicitDefEqProofs only [go_sem, seval, hq]
 refine X_seq ?_
 refine X_seq ?_
 refine X_jq (J := fun as1 ob1 => ∃ (x2 : Bool), shape_Ins.j1 a0 a1 a2 x2 = some r ∧ [(1, vint .i64 a1), (3, V.ref ob.length 0), (5, V.ref (ob.length + 1) 0), (36, vbool x2)] = as1 ∧ ob ++ [some (O.box [v0_0]), some (O.box [vint .i64 a2.Op, vint .i64 a2.D, vint .i64 a2.A, vint .i64 a2.B, vint .i64 a2.N, vint .i64 a2.M, v2_6])] = ob1) ?_ ?_
 ·rintro as1 ob1 ⟨x2, h, rfl, rfl⟩
  rw [shape_Ins.j1] at h
  simp -implicitDefEqProofs only [go_sem, seval, hq]
  cases f1 : x2
  ·rw [if_neg (nF f1)] at h
   refine X_cond (lx_ok γ) ?_
   simp -implicitDefEqProofs only [go_sem, seval, f1, hq]
   refine X_skip ?_
   try simp -implicitDefEqProofs only [go_sem]
   refine X_sr (lx_ok γ) ?_
   obtain ⟨x3, f2, h⟩ := bindE h
   obtain ⟨f3, f4, f5⟩ := ixL_some f2
   try simp only [Int.toNat_natCast, Int.reduceToNat] at f5
   simp -implicitDefEqProofs only [go_sem, seval, f1, hq, f3, f4, f5]
   refine X_sr (lx_ok γ) ?_
   obtain ⟨x4, f6, h⟩ := bindE h
   simp -implicitDefEqProofs only [go_sem, seval, f1, hq]
   refine callV_eq (shape_Uses_ok γ _ (by first | exact rdK_app hv2_6 | exact hv2_6) f6) rfl rfl ?_
   simp -implicitDefEqProofs only [go_sem, seval, f1, hq]
   refine X_seq ?_
   refine X_jq (J := fun as1 ob1 => ∃ (x5 : List Int), shape_Ins.j2 a2 x3 x5 = some r ∧ [(5, V.ref ob.length 0), (7, V.ref (ob.length + 1) 0), (8, V.row (ob.length + 2) 0 0 (List.length x5))] = as1 ∧ ob ++ [some (O.box [vint .i64 a2.Op, vint .i64 a2.D, vint .i64 a2.A, vint .i64 a2.B, vint .i64 a2.N, vint .i64 a2.M, v2_6]), some (O.box [V.tr (.sl 1 false (List.map (eI .i64) x3.Kinds)), V.tr (.sl 1 false (List.map (eI .i64) x3.Base)), vint .i64 x3.Params, vint .i64 x3.Result, V.tr (.sl 1 false (List.map e_Block x3.Blocks))]), some (O.row 1 0 (List.map (eI .i64) x5))] = ob1) ?_ ?_
   ·rintro as1 ob1 ⟨x5, h, rfl, rfl⟩
    rw [shape_Ins.j2] at h
    simp -implicitDefEqProofs only [go_sem, seval, f1, hq]
    refine X_sr (lx_ok γ) ?_
    simp -implicitDefEqProofs only [go_sem, seval, f1, hq]
    refine X_sr (lx_ok γ) ?_
    simp -implicitDefEqProofs only [go_sem, seval, f1, hq]
    refine X_sr (lx_ok γ) ?_
    obtain ⟨x6, f7, h⟩ := bindE h
    simp -implicitDefEqProofs only [go_sem, seval, f1, hq]
    refine callV_eq (slices_ContainsFunc_int_ok γ _ (by simp -implicitDefEqProofs only [go_sem, seval, f1, hq]; try rfl) (fun ob1 hp y0 r hx => by obtain ⟨l, rfl⟩ := hp; exact shape_Ins_1_ok γ _ (by simp -implicitDefEqProofs only [go_sem, seval, f1, hq]; try rfl) hx) f7) rfl rfl ?_
    cases f8 : x6
    ·rw [if_neg (nF f8)] at h
     obtain ⟨x7, f9, h⟩ := bindE h
     simp -implicitDefEqProofs only [go_sem, seval, f1, f8, hq]
     refine callV_eq (shape_Next_ok γ _ (by first | exact rdK_app hv2_6 | exact hv2_6) f9) rfl rfl ?_
     obtain ⟨x8, f10, h⟩ := bindE h
     simp -implicitDefEqProofs only [go_sem, seval, f1, f8, hq]
     refine callV_eq (slices_ContainsFunc_int_ok γ _ (by simp -implicitDefEqProofs only [go_sem, seval, f1, f8, hq]; try rfl) (fun ob1 hp y0 r hx => by obtain ⟨l, rfl⟩ := hp; exact shape_Ins_2_ok γ _ (by simp -implicitDefEqProofs only [go_sem, seval, f1, f8, hq]; try rfl) hx) f10) rfl rfl ?_
     simp -implicitDefEqProofs only [go_sem, seval, f1, f8, hq]
     obtain rfl := sI h
     refine X_ret ?_
     simp -implicitDefEqProofs only [go_sem, seval, f1, f8, hq]
     exact Rt.mv0 (BaseR.refl hob) (by simp) (vS)
    ·rw [if_pos f8] at h
     simp -implicitDefEqProofs only [go_sem, seval, f1, f8, hq]
     obtain rfl := sI h
     refine X_ret ?_
     simp -implicitDefEqProofs only [go_sem, seval, f1, f8, hq]
     exact Rt.mv0 (BaseR.refl hob) (by simp) (vS)
   ·refine X_sr (lx_ok γ) ?_
    obtain ⟨x9, f11, h⟩ := bindE h
    simp -implicitDefEqProofs only [go_sem, seval, f1, hq]
    refine callV_eq (shape_Sets_ok γ _ (by first | exact rdK_app hv2_6 | exact hv2_6) f11) rfl rfl ?_
    simp -implicitDefEqProofs only [go_sem, seval, f1, hq]
    refine X_sr (lx_ok γ) ?_
    simp -implicitDefEqProofs only [go_sem, seval, f1, hq]
    cases f12 : x9.2
    ·rw [if_neg (nF f12)] at h
     refine X_cond (lx_ok γ) ?_
     simp -implicitDefEqProofs only [go_sem, seval, f1, f12, hq]
     refine X_skip ?_
     try simp -implicitDefEqProofs only [go_sem]
     refine kJ_in ?_ ⟨x4, h, rfl, rfl⟩
     exact To.mv [(1, 0), (2, 0), (3, 0)] (BaseR.refl hob) (by simp) (by decide) (by simp only [go_sem]; exact ⟨VM.refA (j := 1) (t := 0) rfl, VM.refA (j := 2) (t := 1) rfl, VM.rowL (j := 3) (t := 2) rfl (by first | rfl | omega | (simp [*]; done) | simp | simp_all)⟩) ⟨⟨_, rfl, OM.box _ _ ⟨vS, vS, vS, vS, vS, vS, VM.self (by simpa using Bd.of_rdK hv2_6), trivial⟩⟩, ⟨_, rfl, OM.box _ _ ⟨vS, vS, vS, vS, vS, trivial⟩⟩, ⟨_, rfl, OM.row' (by first | rfl | simp_all)⟩, trivial⟩
    ·rw [if_pos f12] at h
     refine X_cond (lx_ok γ) ?_
     simp -implicitDefEqProofs only [go_sem, seval, f1, f12, hq]
     refine X_reg (lx_ok γ) ?_
     obtain ⟨x10, f13, h⟩ := bindE h
     have f14 : List.length x10 * 8 ≤ 140737488355328 := by have := (appL_some f13).1; rw [(appL_some f13).2]; simpa using this
     have f15 : List.map (eI .i64) x4 ++ [[.lit (.int .i64 x9.1)]] = List.map (eI .i64) x10 := by rw [(appL_some f13).2]; simp [eB, eI, eS]
     have f16 : List.length x4 + 1 = List.length x10 := by rw [(appL_some f13).2]; simp
     simp -implicitDefEqProofs only [go_sem, seval, f1, f12, hq, f14, f15, f16]
     refine kJ_in ?_ ⟨x10, h, rfl, rfl⟩
     exact To.mv [(1, 0), (2, 0), (3, 1)] (BaseR.refl hob) (by simp) (by decide) (by simp only [go_sem]; exact ⟨VM.refA (j := 1) (t := 0) rfl, VM.refA (j := 2) (t := 1) rfl, VM.rowL (j := 3) (t := 2) rfl (by first | rfl | omega | (simp [*]; done) | simp | simp_all)⟩) ⟨⟨_, rfl, OM.box _ _ ⟨vS, vS, vS, vS, vS, vS, VM.self (by simpa using Bd.of_rdK hv2_6), trivial⟩⟩, ⟨_, rfl, OM.box _ _ ⟨vS, vS, vS, vS, vS, trivial⟩⟩, ⟨_, rfl, OM.row' (by first | rfl | simp_all)⟩, trivial⟩
  ·rw [if_pos f1] at h
   refine X_cond (lx_ok γ) ?_
   simp -implicitDefEqProofs only [go_sem, seval, f1, hq]
   refine X_sr (lx_ok γ) ?_
   simp -implicitDefEqProofs only [go_sem, seval, f1, hq]
   obtain rfl := sI h
   refine X_ret ?_
   simp -implicitDefEqProofs only [go_sem, seval, f1, hq]
   exact Rt.mv0 (BaseR.refl hob) (by simp) (vS)
 ·refine X_reg (lx_ok γ) ?_
  obtain ⟨x11, f17, h⟩ := bindE h
  simp -implicitDefEqProofs only [go_sem, seval, hq]
  refine callV_eq (shape_within_ok γ _  f17) rfl rfl ?_
  cases f18 : x11
  ·rw [if_neg (nF f18)] at h
   simp -implicitDefEqProofs only [go_sem, seval, f18, hq]
   refine kJ_in ?_ ⟨true, h, rfl, rfl⟩
   exact To.mv [(0, 0), (1, 0)] (BaseR.refl hob) (by simp) (by decide) (by simp only [go_sem]; exact ⟨vS, VM.refA (j := 0) (t := 0) rfl, VM.refA (j := 1) (t := 1) rfl, vS⟩) ⟨⟨_, rfl, OM.box _ _ ⟨VM.self (by simpa using Bd.of_rdK hv0_0), trivial⟩⟩, ⟨_, rfl, OM.box _ _ ⟨vS, vS, vS, vS, vS, vS, VM.self (by simpa using Bd.of_rdK hv2_6), trivial⟩⟩, trivial⟩
  ·rw [if_pos f18] at h
   obtain ⟨x12, f19, h⟩ := bindE h
   simp -implicitDefEqProofs only [go_sem, seval, f18, hq]
   refine callV_eq (code_Parts_ok γ _  f19) rfl rfl ?_
   cases f20 : (ByteArray.toList x12 == ByteArray.toList ({ data := #[] } : ByteArray))
   ·rw [if_neg (nF f20)] at h
    obtain ⟨x13, f21, h⟩ := bindE h
    simp -implicitDefEqProofs only [go_sem, seval, f18, f20, hq]
    refine callV_eq (shape_bare_ok γ _ (by first | exact rdK_app hv2_6 | exact hv2_6) f21) rfl rfl ?_
    cases f22 : x13
    ·rw [if_neg (nF f22)] at h
     simp -implicitDefEqProofs only [go_sem, seval, f18, f20, f22, hq]
     refine kJ_in ?_ ⟨true, h, rfl, rfl⟩
     exact To.mv [(0, 0), (1, 0)] (BaseR.refl hob) (by simp) (by decide) (by simp only [go_sem]; exact ⟨vS, VM.refA (j := 0) (t := 0) rfl, VM.refA (j := 1) (t := 1) rfl, vS⟩) ⟨⟨_, rfl, OM.box _ _ ⟨VM.self (by simpa using Bd.of_rdK hv0_0), trivial⟩⟩, ⟨_, rfl, OM.box _ _ ⟨vS, vS, vS, vS, vS, vS, VM.self (by simpa using Bd.of_rdK hv2_6), trivial⟩⟩, trivial⟩
    ·rw [if_pos f22] at h
     obtain ⟨x14, f23, h⟩ := bindE h
     simp -implicitDefEqProofs only [go_sem, seval, f18, f20, f22, hq]
     refine callV_eq (shape_numbers_ok γ _ (by first | exact rdK_app hv0_0 | exact hv0_0) (by first | exact rdK_app hv2_6 | exact hv2_6) f23) rfl rfl ?_
     simp -implicitDefEqProofs only [go_sem, seval, f18, f20, f22, hq]
     refine kJ_in ?_ ⟨(!x14), h, rfl, rfl⟩
     exact To.mv [(0, 0), (1, 0)] (BaseR.refl hob) (by simp) (by decide) (by simp only [go_sem]; exact ⟨vS, VM.refA (j := 0) (t := 0) rfl, VM.refA (j := 1) (t := 1) rfl, vS⟩) ⟨⟨_, rfl, OM.box _ _ ⟨VM.self (by simpa using Bd.of_rdK hv0_0), trivial⟩⟩, ⟨_, rfl, OM.box _ _ ⟨vS, vS, vS, vS, vS, vS, VM.self (by simpa using Bd.of_rdK hv2_6), trivial⟩⟩, trivial⟩
   ·rw [if_pos f20] at h
    simp -implicitDefEqProofs only [go_sem, seval, f18, f20, hq]
    refine kJ_in ?_ ⟨true, h, rfl, rfl⟩
    exact To.mv [(0, 0), (1, 0)] (BaseR.refl hob) (by simp) (by decide) (by simp only [go_sem]; exact ⟨vS, VM.refA (j := 0) (t := 0) rfl, VM.refA (j := 1) (t := 1) rfl, vS⟩) ⟨⟨_, rfl, OM.box _ _ ⟨VM.self (by simpa using Bd.of_rdK hv0_0), trivial⟩⟩, ⟨_, rfl, OM.box _ _ ⟨vS, vS, vS, vS, vS, vS, VM.self (by simpa using Bd.of_rdK hv2_6), trivial⟩⟩, trivial⟩
end Go.Pf
end
section
set_option maxRecDepth 100000
namespace Go.Pf
open Go Go.Ab Go.Pp Go.Proofs Go.Proofs.S08
attribute [local go_sem] Lxτ Lxγ gam0 gam1 Int.toNat_natCast tau3 tau4 tau22 tau24 tau25 tau27 tau33 tau35 tau36 tau38 eI eB eS e_Ins e_Block e_Func e_Prog e_kind_state eL_Intu64
set_option maxHeartbeats 1000000 in
theorem shape_Check_1_ok (γ : GT) (ob : OT) {a0 : Ins} {v0_6 : V} {o1 : Nat} {a1 : Prog} {o2 : Nat} {a2 : Int} (hv0_6 : rdK (getO ob) 1 v0_6 = some (List.map (eI .i64) a0.Args)) (hx1 : getO ob o1 = some (O.box [V.tr (.sl 5 false (List.map e_Func a1.Funcs))])) (hx2 : getO ob o2 = some (O.box [vint .i64 a2])) {r : Bool} (h : shape_Check_1 a0 a1 a2 = some r) :
  Valid (Lx γ) 41 [V.agg [vint .i64 a0.Op, vint .i64 a0.D, vint .i64 a0.A, vint .i64 a0.B, vint .i64 a0.N, vint .i64 a0.M, v0_6], V.ref o1 0, V.ref o2 0] ob (vbool r) ob := by
 refine valid_X (lx_ok γ) (fn := Tryd.f41) (rs := [.tmp 4]) Tryd.func41 (by kernel_rfl) rfl rfl Tryd.ntmps41 rfl (by simp) fun hb hob => ?_
 have hq := rd4 hv0_6
 have hoa1 := getO_lt hx1
 have hoa2 := getO_lt hx2
 rw [shape_Check_1] at h
 refine X_sr (lx_ok γ) ?_
 simp -implicitDefEqProofs only [go_sem, seval, hq, hx1, hx2, getO_ext hx1, getO_ext hx2]
 refine X_sr (lx_ok γ) ?_
 obtain ⟨x1, f1, h⟩ := bindE h
 simp -implicitDefEqProofs only [go_sem, seval, hq, hx1, hx2, getO_ext hx1, getO_ext hx2]
 refine callV_eq (shape_Ins_ok γ _ (by simp -implicitDefEqProofs only [go_sem, seval, hq, hx1, hx2, getO_ext hx1, getO_ext hx2]; try rfl) (by first | exact rdK_app hv0_6 | exact hv0_6) f1) rfl rfl ?_
 simp -implicitDefEqProofs only [go_sem, seval, hq, hx1, hx2, getO_ext hx1, getO_ext hx2]
 obtain rfl := sI h
 refine X_ret ?_
 simp -implicitDefEqProofs only [go_sem, seval, hq, hx1, hx2, getO_ext hx1, getO_ext hx2]
 exact Rt.mv0 (BaseR.refl hob) (by simp) (vS)
end Go.Pf
end
section
set_option maxRecDepth 100000
namespace Go.Pf
open Go Go.Ab Go.Pp Go.Proofs Go.Proofs.S08
attribute [local go_sem] Lxτ Lxγ gam0 gam1 Int.toNat_natCast tau3 tau4 tau22 tau24 tau25 tau27 tau33 tau35 tau36 tau38 tau52 eI eB eS e_Ins e_Block e_Func e_Prog e_kind_state eL_Intu64
set_option maxHeartbeats 1000000 in
theorem shape_Check_ok (γ : GT) (ob : OT) {a0 : Prog} {r : Int} (h : shape_Check a0 = some r) :
  Valid (Lx γ) 28 [V.agg [V.tr (.sl 5 false (List.map e_Func a0.Funcs))]] ob (vint .i64 r) ob := by
 refine valid_X (lx_ok γ) (fn := Tryd.f28) (rs := [.tmp 2]) Tryd.func28 (by kernel_rfl) rfl rfl Tryd.ntmps28 rfl (by simp) fun hb hob => ?_
 rw [shape_Check] at h
 refine X_sr (lx_ok γ) ?_
 simp -implicitDefEqProofs only [go_sem, seval]
 refine X_seq ?_
 refine X_seq ?_
 refine X_jq (J := fun as1 ob1 => ∃ (x2 : Bool), shape_Check.j1 a0 x2 = some r ∧ [(1, V.ref ob.length 0), (27, vbool x2)] = as1 ∧ ob ++ [some (O.box [V.tr (.sl 5 false (List.map e_Func a0.Funcs))])] = ob1) ?_ ?_
 ·rintro as1 ob1 ⟨x2, h, rfl, rfl⟩
  rw [shape_Check.j1] at h
  simp -implicitDefEqProofs only [go_sem, seval]
  cases f1 : x2
  ·rw [if_neg (nF f1)] at h
   refine X_cond (lx_ok γ) ?_
   simp -implicitDefEqProofs only [go_sem, seval, f1]
   refine X_skip ?_
   try simp -implicitDefEqProofs only [go_sem]
   refine X_seq ?_
   refine X_sr (lx_ok γ) ?_
   simp -implicitDefEqProofs only [go_sem, seval, f1]
   refine X_jq (J := fun as1 ob1 => shape_Check.k1 = some r ∧ [] = as1 ∧ ob = ob1) ?_ ?_
   ·rintro as1 ob1 ⟨h, rfl, rfl⟩
    rw [shape_Check.k1] at h
    simp -implicitDefEqProofs only [go_sem, seval, f1]
    refine X_sr (lx_ok γ) ?_
    simp -implicitDefEqProofs only [go_sem, seval, f1]
    obtain rfl := sI h
    refine X_ret ?_
    simp -implicitDefEqProofs only [go_sem, seval, f1]
    exact Rt.mv1 (BaseR.refl hob) (by simp) (vS)
   ·refine X_block ?_
    obtain ⟨lr1, hl1, hk1, hr1⟩ := aft2 h
    refine X_forN hl1 (fun (i1 : Nat) (s : Unit) as1 ob1 => [(1, V.ref ob.length 0), (29, V.tr (.sl 5 false (List.map e_Func a0.Funcs))), (30, vint .i64 (List.length a0.Funcs : Int)), (31, vint .i64 (i1 : Int))] = as1 ∧ ob ++ [some (O.box [V.tr (.sl 5 false (List.map e_Func a0.Funcs))])] = ob1) ⟨_, _, ?_, rfl, rfl⟩ ?_ ?_
    ·exact To.mv [(0, 0)] (BaseR.refl hob) (by simp) (by decide) (by simp only [go_sem]; exact ⟨VM.refA (j := 0) (t := 0) rfl, vS, vS, VM.eqv (by simp) (by simp)⟩) ⟨⟨_, rfl, OM.box _ _ ⟨vS, trivial⟩⟩, trivial⟩
    ·rintro i1 _ o1 hi1 hw1 h ho1 as1 ob1 ⟨rfl, rfl⟩
     rw [shape_Check.b1] at h
     refine X_sr (lx_ok γ) ?_
     simp -implicitDefEqProofs only [go_sem, seval, f1, hi1]
     refine X_seq ?_
     refine X_cond (lx_ok γ) ?_
     simp -implicitDefEqProofs only [go_sem, seval, f1, hi1]
     refine X_skip ?_
     try simp -implicitDefEqProofs only [go_sem]
     refine X_seq ?_
     refine X_block ?_
     refine X_sr (lx_ok γ) ?_
     obtain ⟨x4, f2, h⟩ := bindE h
     obtain ⟨f3, f4⟩ := ixL_nat f2
     have f5 : (0 : Int) ≤ (i1 : Int) := Int.natCast_nonneg _
     simp -implicitDefEqProofs only [go_sem, seval, f1, hi1, f3, f4, f5]
     refine X_seq ?_
     refine X_sr (lx_ok γ) ?_
     obtain ⟨x5, f6, h⟩ := bindE h
     simp -implicitDefEqProofs only [go_sem, seval, f1, hi1]
     refine callV_eq (shape_Func_ok γ _  f6) rfl rfl ?_
     simp -implicitDefEqProofs only [go_sem, seval, f1, hi1]
     cases f7 : x5
     ·rw [if_neg (nF f7)] at h
      refine X_cond (lx_ok γ) ?_
      simp -implicitDefEqProofs only [go_sem, seval, f1, hi1, f7]
      refine X_sr (lx_ok γ) ?_
      simp -implicitDefEqProofs only [go_sem, seval, f1, hi1, f7]
      obtain rfl := sI h
      have h := hr1 _ (ho1 (fun _ hs => nomatch hs))
      obtain rfl := sI h
      refine X_ret ?_
      simp -implicitDefEqProofs only [go_sem, seval, f1, hi1, f7]
      exact Rt.mv0 (BaseR.refl hob) (by simp) (vS)
     ·rw [if_pos f7] at h
      refine X_cond (lx_ok γ) ?_
      simp -implicitDefEqProofs only [go_sem, seval, f1, hi1, f7]
      refine X_skip ?_
      try simp -implicitDefEqProofs only [go_sem]
      refine X_sr (lx_ok γ) ?_
      simp -implicitDefEqProofs only [go_sem, seval, f1, hi1, f7]
      refine X_jq (J := fun as1 ob1 => shape_Check.k2 = some o1 ∧ [(1, V.ref ob.length 0), (29, V.tr (.sl 5 false (List.map e_Func a0.Funcs))), (30, vint .i64 (List.length a0.Funcs : Int)), (31, vint .i64 (i1 : Int))] = as1 ∧ ob ++ [some (O.box [V.tr (.sl 5 false (List.map e_Func a0.Funcs))])] = ob1) ?_ ?_
      ·rintro as1 ob1 ⟨h, rfl, rfl⟩
       rw [shape_Check.k2] at h
       simp -implicitDefEqProofs only [go_sem, seval, f1, hi1, f7]
       refine X_reg (lx_ok γ) ?_
       obtain rfl := sI h
       simp -implicitDefEqProofs only [go_sem, seval, f1, hi1, f7]
       refine kR_in rfl ?_ ⟨rfl, rfl⟩
       exact To.mv [(0, 0)] (BaseR.refl hob) (by simp) (by decide) (by simp only [go_sem]; exact ⟨VM.refA (j := 0) (t := 0) rfl, vS, vS, VM.eqv (by rw [hw1]) (by simp)⟩) ⟨⟨_, rfl, OM.box _ _ ⟨vS, trivial⟩⟩, trivial⟩
      ·refine X_block ?_
       obtain ⟨lr2, hl2, hk2, hr2⟩ := aft2 h
       refine X_forN hl2 (fun (i2 : Nat) (s : Unit) as1 ob1 => [(1, V.ref ob.length 0), (3, V.ref (ob.length + 1) 0), (29, V.tr (.sl 5 false (List.map e_Func a0.Funcs))), (30, vint .i64 (List.length a0.Funcs : Int)), (31, vint .i64 (i1 : Int)), (40, V.tr (.sl 1 false (List.map e_Block x4.Blocks))), (41, vint .i64 (List.length x4.Blocks : Int)), (42, vint .i64 (i2 : Int))] = as1 ∧ ob ++ [some (O.box [V.tr (.sl 5 false (List.map e_Func a0.Funcs))]), some (O.box [vint .i64 (i1 : Int)])] = ob1) ⟨_, _, ?_, rfl, rfl⟩ ?_ ?_
       ·exact To.mv [(0, 0), (1, 0)] (BaseR.refl hob) (by simp) (by decide) (by simp only [go_sem]; exact ⟨VM.refA (j := 0) (t := 0) rfl, VM.refA (j := 1) (t := 1) rfl, vS, vS, vS, vS, vS, VM.eqv (by simp) (by simp)⟩) ⟨⟨_, rfl, OM.box _ _ ⟨vS, trivial⟩⟩, ⟨_, rfl, OM.box _ _ ⟨vS, trivial⟩⟩, trivial⟩
       ·rintro i2 _ o2 hi2 hw2 h ho2 as1 ob1 ⟨rfl, rfl⟩
        rw [shape_Check.b2] at h
        refine X_sr (lx_ok γ) ?_
        simp -implicitDefEqProofs only [go_sem, seval, f1, hi1, f7, hi2]
        refine X_seq ?_
        refine X_cond (lx_ok γ) ?_
        simp -implicitDefEqProofs only [go_sem, seval, f1, hi1, f7, hi2]
        refine X_skip ?_
        try simp -implicitDefEqProofs only [go_sem]
        refine X_seq ?_
        refine X_block ?_
        refine X_sr (lx_ok γ) ?_
        obtain ⟨x7, f8, h⟩ := bindE h
        obtain ⟨f9, f10⟩ := ixL_nat f8
        have f11 : (0 : Int) ≤ (i2 : Int) := Int.natCast_nonneg _
        simp -implicitDefEqProofs only [go_sem, seval, f1, hi1, f7, hi2, f9, f10, f11]
        refine X_sr (lx_ok γ) ?_
        obtain ⟨x8, f12, h⟩ := bindE h
        simp -implicitDefEqProofs only [go_sem, seval, f1, hi1, f7, hi2]
        refine callV_eq (slices_ContainsFunc_Ins_ok γ _ (by simp -implicitDefEqProofs only [go_sem, seval, f1, hi1, f7, hi2]; try rfl) (fun ob1 hp y0 r hx => by obtain ⟨l, rfl⟩ := hp; exact shape_Check_1_ok γ _ (by simp -implicitDefEqProofs only [go_sem, seval, f1, hi1, f7, hi2]; try rfl) (by simp -implicitDefEqProofs only [go_sem, seval, f1, hi1, f7, hi2]; try rfl) (by simp -implicitDefEqProofs only [go_sem, seval, f1, hi1, f7, hi2]; try rfl) hx) f12) rfl rfl ?_
        simp -implicitDefEqProofs only [go_sem, seval, f1, hi1, f7, hi2]
        cases f13 : x8
        ·rw [if_neg (nF f13)] at h
         refine X_cond (lx_ok γ) ?_
         simp -implicitDefEqProofs only [go_sem, seval, f1, hi1, f7, hi2, f13]
         refine X_skip ?_
         try simp -implicitDefEqProofs only [go_sem]
         refine X_reg (lx_ok γ) ?_
         obtain rfl := sI h
         simp -implicitDefEqProofs only [go_sem, seval, f1, hi1, f7, hi2, f13]
         refine kR_in rfl ?_ ⟨rfl, rfl⟩
         exact To.mv [(0, 0), (1, 0)] (BaseR.refl hob) (by simp) (by decide) (by simp only [go_sem]; exact ⟨VM.refA (j := 0) (t := 0) rfl, VM.refA (j := 1) (t := 1) rfl, vS, vS, vS, vS, vS, VM.eqv (by rw [hw2]) (by simp)⟩) ⟨⟨_, rfl, OM.box _ _ ⟨vS, trivial⟩⟩, ⟨_, rfl, OM.box _ _ ⟨vS, trivial⟩⟩, trivial⟩
        ·rw [if_pos f13] at h
         refine X_cond (lx_ok γ) ?_
         simp -implicitDefEqProofs only [go_sem, seval, f1, hi1, f7, hi2, f13]
         refine X_sr (lx_ok γ) ?_
         simp -implicitDefEqProofs only [go_sem, seval, f1, hi1, f7, hi2, f13]
         obtain rfl := sI h
         have h := hr2 _ (ho2 (fun _ hs => nomatch hs))
         obtain rfl := sI h
         have h := hr1 _ (ho1 (fun _ hs => nomatch hs))
         obtain rfl := sI h
         refine X_ret ?_
         simp -implicitDefEqProofs only [go_sem, seval, f1, hi1, f7, hi2, f13]
         exact Rt.mv0 (BaseR.refl hob) (by simp) (vS)
       ·rintro i2 _ hi2 hn2 as1 ob1 ⟨rfl, rfl⟩
        refine X_sr (lx_ok γ) ?_
        simp -implicitDefEqProofs only [go_sem, seval, f1, hi1, f7, hi2]
        refine X_seq ?_
        refine X_cond (lx_ok γ) ?_
        simp -implicitDefEqProofs only [go_sem, seval, f1, hi1, f7, hi2]
        have h := hk2 _ (.inl hn2)
        refine X_exit ?_
        try simp -implicitDefEqProofs only [go_sem, ↓reduceIte, Nat.reduceEqDiff, reduceCtorEq]
        refine kJ_in ?_ ⟨h, rfl, rfl⟩
        exact To.mv [(0, 0)] (BaseR.refl hob) (by simp) (by decide) (by simp only [go_sem]; exact ⟨VM.refA (j := 0) (t := 0) rfl, vS, vS, vS⟩) ⟨⟨_, rfl, OM.box _ _ ⟨vS, trivial⟩⟩, trivial⟩
    ·rintro i1 _ hi1 hn1 as1 ob1 ⟨rfl, rfl⟩
     refine X_sr (lx_ok γ) ?_
     simp -implicitDefEqProofs only [go_sem, seval, f1, hi1]
     refine X_seq ?_
     refine X_cond (lx_ok γ) ?_
     simp -implicitDefEqProofs only [go_sem, seval, f1, hi1]
     have h := hk1 _ (.inl hn1)
     refine X_exit ?_
     try simp -implicitDefEqProofs only [go_sem, ↓reduceIte, Nat.reduceEqDiff, reduceCtorEq]
     refine kJ_in ?_ ⟨h, rfl, rfl⟩
     exact To.mv0 (BaseR.refl hob) (by simp) trivial
  ·rw [if_pos f1] at h
   refine X_cond (lx_ok γ) ?_
   simp -implicitDefEqProofs only [go_sem, seval, f1]
   refine X_sr (lx_ok γ) ?_
   simp -implicitDefEqProofs only [go_sem, seval, f1]
   obtain rfl := sI h
   refine X_ret ?_
   simp -implicitDefEqProofs only [go_sem, seval, f1]
   exact Rt.mv0 (BaseR.refl hob) (by simp) (vS)
 ·refine X_reg (lx_ok γ) ?_
  obtain ⟨x9, f14, h⟩ := bindE h
  simp -implicitDefEqProofs only [go_sem, seval]
  refine callV_eq (shape_within_ok γ _  f14) rfl rfl ?_
  cases f15 : x9
  ·rw [if_neg (nF f15)] at h
   simp -implicitDefEqProofs only [go_sem, seval, f15]
   refine kJ_in ?_ ⟨true, h, rfl, rfl⟩
   exact To.mv [(0, 0)] (BaseR.refl hob) (by simp) (by decide) (by simp only [go_sem]; exact ⟨VM.refA (j := 0) (t := 0) rfl, vS⟩) ⟨⟨_, rfl, OM.box _ _ ⟨vS, trivial⟩⟩, trivial⟩
  ·rw [if_pos f15] at h
   obtain ⟨x10, f16, h⟩ := bindE h
   obtain ⟨f17, f18, f19⟩ := ixL_some f16
   try simp only [Int.toNat_natCast, Int.reduceToNat] at f19
   cases f20 : (x10.Params != 0)
   ·rw [if_neg (nF f20)] at h
    simp -implicitDefEqProofs only [go_sem, seval, f15, f20, f18, f19]
    refine kJ_in ?_ ⟨(x10.Result != 0), h, rfl, rfl⟩
    exact To.mv [(0, 0)] (BaseR.refl hob) (by simp) (by decide) (by simp only [go_sem]; exact ⟨VM.refA (j := 0) (t := 0) rfl, vS⟩) ⟨⟨_, rfl, OM.box _ _ ⟨vS, trivial⟩⟩, trivial⟩
   ·rw [if_pos f20] at h
    simp -implicitDefEqProofs only [go_sem, seval, f15, f20, f18, f19]
    refine kJ_in ?_ ⟨true, h, rfl, rfl⟩
    exact To.mv [(0, 0)] (BaseR.refl hob) (by simp) (by decide) (by simp only [go_sem]; exact ⟨VM.refA (j := 0) (t := 0) rfl, vS⟩) ⟨⟨_, rfl, OM.box _ _ ⟨vS, trivial⟩⟩, trivial⟩
end Go.Pf
end
section
set_option maxRecDepth 100000
namespace Go.Pf
open Go Go.Ab Go.Pp Go.Proofs Go.Proofs.S08
attribute [local go_sem] Lxτ Lxγ gam0 gam1 Int.toNat_natCast List.append_eq List.cons_append List.nil_append tau3 tau22 tau24 tau25 tau27 tau33 tau35 tau36 tau38 tau54 tau55 tau56 eI eB eS e_Ins e_Block e_Func e_Prog e_kind_state eL_Intu64
set_option maxHeartbeats 1000000 in
theorem kind_Fits_ok (γ : GT) (ob : OT) {a0 : Prog} {v0_0 : V} {a1 : Int} {a2 : Ins} {v2_6 : V} (hv0_0 : rdK (getO ob) 5 v0_0 = some (List.map e_Func a0.Funcs)) (hv2_6 : rdK (getO ob) 1 v2_6 = some (List.map (eI .i64) a2.Args)) {r : Bool} (h : kind_Fits a0 a1 a2 = some r) :
  Valid (Lx γ) 10 [V.agg [v0_0], vint .i64 a1, V.agg [vint .i64 a2.Op, vint .i64 a2.D, vint .i64 a2.A, vint .i64 a2.B, vint .i64 a2.N, vint .i64 a2.M, v2_6]] ob (vbool r) ob := by
 refine valid_X (lx_ok γ) (fn := Tryd.f10) (rs := [.tmp 6]) Tryd.func10 (by kernel_rfl) rfl rfl Tryd.ntmps10 rfl (by simp) fun hb hob => ?_
 have hq := And.intro (rd4 hv0_0) (rd4 hv2_6)
 rw [kind_Fits] at h
 refine X_sr (lx_ok γ) ?_
 simp -implicitDefEqProofs only [go_sem, seval, hq]
 refine X_seq ?_
 refine X_seq ?_
 refine X_jq (J := fun as1 ob1 => ∃ (x4 : Bool), kind_Fits.j1 a0 a1 a2 x4 = some r ∧ [(1, vint .i64 a1), (3, V.ref ob.length 0), (5, V.ref (ob.length + 1) 0), (32, vbool x4)] = as1 ∧ ob ++ [some (O.box [v0_0]), some (O.box [vint .i64 a2.Op, vint .i64 a2.D, vint .i64 a2.A, vint .i64 a2.B, vint .i64 a2.N, vint .i64 a2.M, v2_6])] = ob1) ?_ ?_
 ·rintro as1 ob1 ⟨x4, h, rfl, rfl⟩
  rw [kind_Fits.j1] at h
  simp -implicitDefEqProofs only [go_sem, seval, hq]
  cases f1 : x4
  ·rw [if_neg (nF f1)] at h
   refine X_cond (lx_ok γ) ?_
   simp -implicitDefEqProofs only [go_sem, seval, f1, hq]
   refine X_skip ?_
   try simp -implicitDefEqProofs only [go_sem]
   refine X_sr (lx_ok γ) ?_
   obtain ⟨x5, f2, h⟩ := bindE h
   obtain ⟨f3, f4, f5⟩ := ixL_some f2
   try simp only [Int.toNat_natCast, Int.reduceToNat] at f5
   simp -implicitDefEqProofs only [go_sem, seval, f1, hq, f3, f4, f5]
   refine X_seq ?_
   refine X_sr (lx_ok γ) ?_
   simp -implicitDefEqProofs only [go_sem, seval, f1, hq]
   refine X_jq (J := fun as1 ob1 => kind_Fits.k1 a0 a2 x5 = some r ∧ [(3, V.ref ob.length 0), (5, V.ref (ob.length + 1) 0), (7, V.ref (ob.length + 2) 0)] = as1 ∧ ob ++ [some (O.box [v0_0]), some (O.box [vint .i64 a2.Op, vint .i64 a2.D, vint .i64 a2.A, vint .i64 a2.B, vint .i64 a2.N, vint .i64 a2.M, v2_6]), some (O.box [V.tr (.sl 1 false (List.map (eI .i64) x5.Kinds)), V.tr (.sl 1 false (List.map (eI .i64) x5.Base)), vint .i64 x5.Params, vint .i64 x5.Result, V.tr (.sl 1 false (List.map e_Block x5.Blocks))])] = ob1) ?_ ?_
   ·rintro as1 ob1 ⟨h, rfl, rfl⟩
    rw [kind_Fits.k1] at h
    simp -implicitDefEqProofs only [go_sem, seval, f1, hq]
    refine X_seq ?_
    refine X_sr (lx_ok γ) ?_
    simp -implicitDefEqProofs only [go_sem, seval, f1, hq]
    refine X_block ?_
    refine X_sr (lx_ok γ) ?_
    simp -implicitDefEqProofs only [go_sem, seval, f1, hq]
    cases f6 : (a2.Op == 2)
    ·rw [if_neg (nF f6)] at h
     refine X_cond (lx_ok γ) ?_
     simp -implicitDefEqProofs only [go_sem, seval, f1, f6, hq]
     refine X_sr (lx_ok γ) ?_
     simp -implicitDefEqProofs only [go_sem, seval, f1, f6, hq]
     cases f7 : (a2.Op == 15)
     ·rw [if_neg (nF f7)] at h
      refine X_cond (lx_ok γ) ?_
      simp -implicitDefEqProofs only [go_sem, seval, f1, f6, f7, hq]
      refine X_sr (lx_ok γ) ?_
      simp -implicitDefEqProofs only [go_sem, seval, f1, f6, f7, hq]
      cases f8 : (a2.Op == 16)
      ·rw [if_neg (nF f8)] at h
       refine X_cond (lx_ok γ) ?_
       simp -implicitDefEqProofs only [go_sem, seval, f1, f6, f7, f8, hq]
       refine X_sr (lx_ok γ) ?_
       simp -implicitDefEqProofs only [go_sem, seval, f1, f6, f7, f8, hq]
       cases f9 : (a2.Op == 23)
       ·rw [if_neg (nF f9)] at h
        refine X_cond (lx_ok γ) ?_
        simp -implicitDefEqProofs only [go_sem, seval, f1, f6, f7, f8, f9, hq]
        refine X_sr (lx_ok γ) ?_
        simp -implicitDefEqProofs only [go_sem, seval, f1, f6, f7, f8, f9, hq]
        cases f10 : (a2.Op == 19)
        ·rw [if_neg (nF f10)] at h
         refine X_cond (lx_ok γ) ?_
         simp -implicitDefEqProofs only [go_sem, seval, f1, f6, f7, f8, f9, f10, hq]
         refine X_skip ?_
         try simp -implicitDefEqProofs only [go_sem]
         refine X_sr (lx_ok γ) ?_
         simp -implicitDefEqProofs only [go_sem, seval, f1, f6, f7, f8, f9, f10, hq]
         obtain rfl := sI h
         refine X_ret ?_
         simp -implicitDefEqProofs only [go_sem, seval, f1, f6, f7, f8, f9, f10, hq]
         exact Rt.mv0 (BaseR.refl hob) (by simp) (vS)
        ·rw [if_pos f10] at h
         refine X_cond (lx_ok γ) ?_
         simp -implicitDefEqProofs only [go_sem, seval, f1, f6, f7, f8, f9, f10, hq]
         refine X_sr (lx_ok γ) ?_
         obtain ⟨x7, f11, h⟩ := bindE h
         obtain ⟨f12, f13, f14⟩ := ixL_some f11
         try simp only [Int.toNat_natCast, Int.reduceToNat] at f14
         simp -implicitDefEqProofs only [go_sem, seval, f1, f6, f7, f8, f9, f10, hq, f12, f13, f14]
         refine X_seq ?_
         refine X_sr (lx_ok γ) ?_
         simp -implicitDefEqProofs only [go_sem, seval, f1, f6, f7, f8, f9, f10, hq]
         refine X_jq (J := fun as1 ob1 => kind_Fits.k2 a2 x5 x7 = some r ∧ [(5, V.ref ob.length 0), (7, V.ref (ob.length + 1) 0), (11, V.ref (ob.length + 2) 0)] = as1 ∧ ob ++ [some (O.box [vint .i64 a2.Op, vint .i64 a2.D, vint .i64 a2.A, vint .i64 a2.B, vint .i64 a2.N, vint .i64 a2.M, v2_6]), some (O.box [V.tr (.sl 1 false (List.map (eI .i64) x5.Kinds)), V.tr (.sl 1 false (List.map (eI .i64) x5.Base)), vint .i64 x5.Params, vint .i64 x5.Result, V.tr (.sl 1 false (List.map e_Block x5.Blocks))]), some (O.box [V.tr (.sl 1 false (List.map (eI .i64) x7.Kinds)), V.tr (.sl 1 false (List.map (eI .i64) x7.Base)), vint .i64 x7.Params, vint .i64 x7.Result, V.tr (.sl 1 false (List.map e_Block x7.Blocks))])] = ob1) ?_ ?_
         ·rintro as1 ob1 ⟨h, rfl, rfl⟩
          rw [kind_Fits.k2] at h
          simp -implicitDefEqProofs only [go_sem, seval, f1, f6, f7, f8, f9, f10, hq]
          refine X_seq ?_
          refine X_drawn (lx_ok γ) [[], [0], [], [2], [0, 1, 2, 3], [0, 1, 2, 3, 4], [], [6], [0, 1, 2, 3, 4, 5, 6, 7], [0, 1, 2, 3, 4, 5, 6, 7, 8]] (fun i => match i with | _ => false) (by kernel_rfl) ?_
          obtain ⟨x9, f15, h⟩ := bindE h
          obtain ⟨f16, f17, f18⟩ := ixL_some f15
          try simp only [Int.toNat_natCast, Int.reduceToNat] at f18
          try simp -implicitDefEqProofs only [go_sem, seval, f1, f6, f7, f8, f9, f10, hq, f16, f17, f18, cmpr, List.getD_cons_zero, List.getD_cons_succ, List.contains_cons, List.contains_nil, Nat.reduceBEq, Bool.false_or, Bool.or_false, Bool.true_or, Bool.or_true, beq_self_eq_true]
          obtain rfl := sI h
          refine X_ret ?_
          simp -implicitDefEqProofs only [go_sem, seval, f1, f6, f7, f8, f9, f10, hq, f16, f17, f18]
          exact Rt.mv0 (BaseR.refl hob) (by simp) (vS)
         ·refine X_block ?_
          obtain ⟨lr2, hl2, hk2, hr2⟩ := aft2 h
          refine X_forN hl2 (fun (i2 : Nat) (s : Unit) as1 ob1 => [(5, V.ref ob.length 0), (7, V.ref (ob.length + 1) 0), (11, V.ref (ob.length + 2) 0), (139, v2_6), (140, vint .i64 (List.length a2.Args : Int)), (141, vint .i64 (i2 : Int))] = as1 ∧ ob ++ [some (O.box [vint .i64 a2.Op, vint .i64 a2.D, vint .i64 a2.A, vint .i64 a2.B, vint .i64 a2.N, vint .i64 a2.M, v2_6]), some (O.box [V.tr (.sl 1 false (List.map (eI .i64) x5.Kinds)), V.tr (.sl 1 false (List.map (eI .i64) x5.Base)), vint .i64 x5.Params, vint .i64 x5.Result, V.tr (.sl 1 false (List.map e_Block x5.Blocks))]), some (O.box [V.tr (.sl 1 false (List.map (eI .i64) x7.Kinds)), V.tr (.sl 1 false (List.map (eI .i64) x7.Base)), vint .i64 x7.Params, vint .i64 x7.Result, V.tr (.sl 1 false (List.map e_Block x7.Blocks))])] = ob1) ⟨_, _, ?_, rfl, rfl⟩ ?_ ?_
          ·exact To.mv [(1, 0), (2, 0), (3, 0)] (BaseR.refl hob) (by simp) (by decide) (by simp only [go_sem]; exact ⟨VM.refA (j := 1) (t := 0) rfl, VM.refA (j := 2) (t := 1) rfl, VM.refA (j := 3) (t := 2) rfl, VM.self (by simpa using Bd.of_rdK hv2_6), vS, VM.eqv (by simp) (by simp)⟩) ⟨⟨_, rfl, OM.box _ _ ⟨vS, vS, vS, vS, vS, vS, VM.self (by simpa using Bd.of_rdK hv2_6), trivial⟩⟩, ⟨_, rfl, OM.box _ _ ⟨vS, vS, vS, vS, vS, trivial⟩⟩, ⟨_, rfl, OM.box _ _ ⟨vS, vS, vS, vS, vS, trivial⟩⟩, trivial⟩
          ·rintro i2 _ o2 hi2 hw2 h ho2 as1 ob1 ⟨rfl, rfl⟩
           rw [kind_Fits.b2] at h
           refine X_sr (lx_ok γ) ?_
           simp -implicitDefEqProofs only [go_sem, seval, f1, f6, f7, f8, f9, f10, hi2, hq]
           refine X_seq ?_
           refine X_cond (lx_ok γ) ?_
           simp -implicitDefEqProofs only [go_sem, seval, f1, f6, f7, f8, f9, f10, hi2, hq]
           refine X_skip ?_
           try simp -implicitDefEqProofs only [go_sem]
           refine X_seq ?_
           refine X_block ?_
           refine X_sr (lx_ok γ) ?_
           obtain ⟨x10, f19, h⟩ := bindE h
           obtain ⟨f20, f21⟩ := ixL_nat f19
           have f22 : (0 : Int) ≤ (i2 : Int) := Int.natCast_nonneg _
           simp -implicitDefEqProofs only [go_sem, seval, f1, f6, f7, f8, f9, f10, hi2, hq, f20, f21, f22]
           refine X_seq ?_
           refine X_drawn (lx_ok γ) [[], [0], [], [0, 1, 2], [0, 1, 2, 3], [], [5], [], [5, 6, 7], [5, 6, 7, 8], [0, 1, 2, 3, 4, 5, 6, 7, 8, 9]] (fun i => match i with | _ => false) (by kernel_rfl) ?_
           obtain ⟨x11, f23, h⟩ := bindE h
           obtain ⟨f24, f25, f26⟩ := ixL_some f23
           try simp only [Int.toNat_natCast, Int.reduceToNat] at f26
           obtain ⟨x12, f27, h⟩ := bindE h
           obtain ⟨f28, f29⟩ := ixL_nat f27
           have f30 : (0 : Int) ≤ (i2 : Int) := Int.natCast_nonneg _
           try simp -implicitDefEqProofs only [go_sem, seval, f1, f6, f7, f8, f9, f10, hi2, hq, f24, f25, f26, f28, f29, f30, cmpr, List.getD_cons_zero, List.getD_cons_succ, List.contains_cons, List.contains_nil, Nat.reduceBEq, Bool.false_or, Bool.or_false, Bool.true_or, Bool.or_true, beq_self_eq_true]
           cases f31 : (x11 != x12)
           ·rw [if_neg (nF f31)] at h
            refine X_cond (lx_ok γ) ?_
            simp -implicitDefEqProofs only [go_sem, seval, f1, f6, f7, f8, f9, f10, hi2, f31, hq, f24, f25, f26, f28, f29, f30]
            refine X_skip ?_
            try simp -implicitDefEqProofs only [go_sem]
            refine X_reg (lx_ok γ) ?_
            obtain rfl := sI h
            simp -implicitDefEqProofs only [go_sem, seval, f1, f6, f7, f8, f9, f10, hi2, f31, hq]
            refine kR_in rfl ?_ ⟨rfl, rfl⟩
            exact To.mv [(0, 0), (1, 0), (2, 0)] (BaseR.refl hob) (by simp) (by decide) (by simp only [go_sem]; exact ⟨VM.refA (j := 0) (t := 0) rfl, VM.refA (j := 1) (t := 1) rfl, VM.refA (j := 2) (t := 2) rfl, VM.self (by simpa using Bd.of_rdK hv2_6), vS, VM.eqv (by rw [hw2]) (by simp)⟩) ⟨⟨_, rfl, OM.box _ _ ⟨vS, vS, vS, vS, vS, vS, VM.self (by simpa using Bd.of_rdK hv2_6), trivial⟩⟩, ⟨_, rfl, OM.box _ _ ⟨vS, vS, vS, vS, vS, trivial⟩⟩, ⟨_, rfl, OM.box _ _ ⟨vS, vS, vS, vS, vS, trivial⟩⟩, trivial⟩
           ·rw [if_pos f31] at h
            refine X_cond (lx_ok γ) ?_
            simp -implicitDefEqProofs only [go_sem, seval, f1, f6, f7, f8, f9, f10, hi2, f31, hq, f24, f25, f26, f28, f29, f30]
            refine X_sr (lx_ok γ) ?_
            simp -implicitDefEqProofs only [go_sem, seval, f1, f6, f7, f8, f9, f10, hi2, f31, hq]
            obtain rfl := sI h
            have h := hr2 _ (ho2 (fun _ hs => nomatch hs))
            obtain rfl := sI h
            refine X_ret ?_
            simp -implicitDefEqProofs only [go_sem, seval, f1, f6, f7, f8, f9, f10, hi2, f31, hq]
            exact Rt.mv0 (BaseR.refl hob) (by simp) (vS)
          ·rintro i2 _ hi2 hn2 as1 ob1 ⟨rfl, rfl⟩
           refine X_sr (lx_ok γ) ?_
           simp -implicitDefEqProofs only [go_sem, seval, f1, f6, f7, f8, f9, f10, hi2, hq]
           refine X_seq ?_
           refine X_cond (lx_ok γ) ?_
           simp -implicitDefEqProofs only [go_sem, seval, f1, f6, f7, f8, f9, f10, hi2, hq]
           have h := hk2 _ (.inl hn2)
           refine X_exit ?_
           try simp -implicitDefEqProofs only [go_sem, ↓reduceIte, Nat.reduceEqDiff, reduceCtorEq]
           refine kJ_in ?_ ⟨h, rfl, rfl⟩
           exact To.mv [(0, 0), (1, 0), (2, 0)] (BaseR.refl hob) (by simp) (by decide) (by simp only [go_sem]; exact ⟨VM.refA (j := 0) (t := 0) rfl, VM.refA (j := 1) (t := 1) rfl, VM.refA (j := 2) (t := 2) rfl⟩) ⟨⟨_, rfl, OM.box _ _ ⟨vS, vS, vS, vS, vS, vS, VM.self (by simpa using Bd.of_rdK hv2_6), trivial⟩⟩, ⟨_, rfl, OM.box _ _ ⟨vS, vS, vS, vS, vS, trivial⟩⟩, ⟨_, rfl, OM.box _ _ ⟨vS, vS, vS, vS, vS, trivial⟩⟩, trivial⟩
       ·rw [if_pos f9] at h
        refine X_cond (lx_ok γ) ?_
        simp -implicitDefEqProofs only [go_sem, seval, f1, f6, f7, f8, f9, hq]
        refine X_seq ?_
        refine X_drawn (lx_ok γ) [[], [0], [], [2], [0, 1, 2, 3], [0, 1, 2, 3, 4], [], [6], [0, 1, 2, 3, 4, 5, 6, 7], [0, 1, 2, 3, 4, 5, 6, 7, 8]] (fun i => match i with | _ => false) (by kernel_rfl) ?_
        obtain ⟨x13, f32, h⟩ := bindE h
        obtain ⟨f33, f34, f35⟩ := ixL_some f32
        try simp only [Int.toNat_natCast, Int.reduceToNat] at f35
        try simp -implicitDefEqProofs only [go_sem, seval, f1, f6, f7, f8, f9, hq, f33, f34, f35, cmpr, List.getD_cons_zero, List.getD_cons_succ, List.contains_cons, List.contains_nil, Nat.reduceBEq, Bool.false_or, Bool.or_false, Bool.true_or, Bool.or_true, beq_self_eq_true]
        obtain rfl := sI h
        refine X_ret ?_
        simp -implicitDefEqProofs only [go_sem, seval, f1, f6, f7, f8, f9, hq, f33, f34, f35]
        exact Rt.mv0 (BaseR.refl hob) (by simp) (vS)
      ·rw [if_pos f8] at h
       refine X_cond (lx_ok γ) ?_
       simp -implicitDefEqProofs only [go_sem, seval, f1, f6, f7, f8, hq]
       refine X_seq ?_
       refine X_drawn (lx_ok γ) [[], [0], [], [2], [0, 1, 2, 3], [0, 1, 2, 3, 4], [], [6], [], [8], [6, 7, 8, 9], [6, 7, 8, 9, 10], [0, 1, 2, 3, 4, 5, 6, 7, 8, 9, 10, 11], [0, 1, 2, 3, 4, 5, 6, 7, 8, 9, 10, 11, 12]] (fun i => match i with | _ => false) (by kernel_rfl) ?_
       obtain ⟨x14, f36, h⟩ := bindE h
       obtain ⟨f37, f38, f39⟩ := ixL_some f36
       try simp only [Int.toNat_natCast, Int.reduceToNat] at f39
       obtain ⟨x15, f40, h⟩ := bindE h
       obtain ⟨f41, f42, f43⟩ := ixL_some f40
       try simp only [Int.toNat_natCast, Int.reduceToNat] at f43
       try simp -implicitDefEqProofs only [go_sem, seval, f1, f6, f7, f8, hq, f37, f38, f39, f41, f42, f43, cmpr, List.getD_cons_zero, List.getD_cons_succ, List.contains_cons, List.contains_nil, Nat.reduceBEq, Bool.false_or, Bool.or_false, Bool.true_or, Bool.or_true, beq_self_eq_true]
       obtain rfl := sI h
       refine X_ret ?_
       simp -implicitDefEqProofs only [go_sem, seval, f1, f6, f7, f8, hq, f37, f38, f39, f41, f42, f43]
       exact Rt.mv0 (BaseR.refl hob) (by simp) (vS)
     ·rw [if_pos f7] at h
      refine X_cond (lx_ok γ) ?_
      simp -implicitDefEqProofs only [go_sem, seval, f1, f6, f7, hq]
      refine X_seq ?_
      refine X_drawn (lx_ok γ) [[], [0], [], [2], [0, 1, 2, 3], [0, 1, 2, 3, 4], [], [6], [0, 1, 2, 3, 4, 5, 6, 7], [0, 1, 2, 3, 4, 5, 6, 7, 8]] (fun i => match i with | _ => false) (by kernel_rfl) ?_
      obtain ⟨x16, f44, h⟩ := bindE h
      obtain ⟨f45, f46, f47⟩ := ixL_some f44
      try simp only [Int.toNat_natCast, Int.reduceToNat] at f47
      try simp -implicitDefEqProofs only [go_sem, seval, f1, f6, f7, hq, f45, f46, f47, cmpr, List.getD_cons_zero, List.getD_cons_succ, List.contains_cons, List.contains_nil, Nat.reduceBEq, Bool.false_or, Bool.or_false, Bool.true_or, Bool.or_true, beq_self_eq_true]
      obtain rfl := sI h
      refine X_ret ?_
      simp -implicitDefEqProofs only [go_sem, seval, f1, f6, f7, hq, f45, f46, f47]
      exact Rt.mv0 (BaseR.refl hob) (by simp) (vS)
    ·rw [if_pos f6] at h
     refine X_cond (lx_ok γ) ?_
     simp -implicitDefEqProofs only [go_sem, seval, f1, f6, hq]
     refine X_seq ?_
     refine X_drawn (lx_ok γ) [[], [0], [], [2], [0, 1, 2, 3], [0, 1, 2, 3, 4], [], [6], [], [8], [6, 7, 8, 9], [6, 7, 8, 9, 10], [0, 1, 2, 3, 4, 5, 6, 7, 8, 9, 10, 11], [0, 1, 2, 3, 4, 5, 6, 7, 8, 9, 10, 11, 12], [0, 1, 2, 3, 4, 5, 6, 7, 8, 9, 10, 11, 12, 13], [0, 1, 2, 3, 4, 5, 6, 7, 8, 9, 10, 11, 12, 13, 14], [0, 1, 2, 3, 4, 5, 6, 7, 8, 9, 10, 11, 12, 13], [0, 1, 2, 3, 4, 5, 6, 7, 8, 9, 10, 11, 12, 13, 16], [0, 1, 2, 3, 4, 5, 6, 7, 8, 9, 10, 11, 12, 13, 14, 15, 16, 17], [0, 1, 2, 3, 4, 5, 6, 7, 8, 9, 10, 11, 12, 13, 14, 15, 16, 17, 18], [0, 1, 2, 3, 4, 5, 6, 7, 8, 9, 10, 11, 12, 13, 14, 15, 16, 17, 18, 19], [0, 1, 2, 3, 4, 5, 6, 7, 8, 9, 10, 11, 12, 13, 14, 15, 16, 17, 18, 19, 20], [0, 1, 2, 3, 4, 5, 6, 7, 8, 9, 10, 11, 12, 13, 14, 15, 16, 17, 18, 19, 20, 21]] (fun i => match i with | _ => false) (by kernel_rfl) ?_
     obtain ⟨x17, f48, h⟩ := bindE h
     obtain ⟨f49, f50, f51⟩ := ixL_some f48
     try simp only [Int.toNat_natCast, Int.reduceToNat] at f51
     obtain ⟨x18, f52, h⟩ := bindE h
     obtain ⟨f53, f54, f55⟩ := ixL_some f52
     try simp only [Int.toNat_natCast, Int.reduceToNat] at f55
     cases f56 : (x17 == x18)
     ·rw [if_neg (nF f56)] at h
      try simp -implicitDefEqProofs only [go_sem, seval, f1, f6, f56, hq, f49, f50, f51, f53, f54, f55, cmpr, List.getD_cons_zero, List.getD_cons_succ, List.contains_cons, List.contains_nil, Nat.reduceBEq, Bool.false_or, Bool.or_false, Bool.true_or, Bool.or_true, beq_self_eq_true]
      obtain rfl := sI h
      refine X_ret ?_
      simp -implicitDefEqProofs only [go_sem, seval, f1, f6, f56, hq, f49, f50, f51, f53, f54, f55]
      exact Rt.mv0 (BaseR.refl hob) (by simp) (vS)
     ·rw [if_pos f56] at h
      try simp -implicitDefEqProofs only [go_sem, seval, f1, f6, f56, hq, f49, f50, f51, f53, f54, f55, cmpr, List.getD_cons_zero, List.getD_cons_succ, List.contains_cons, List.contains_nil, Nat.reduceBEq, Bool.false_or, Bool.or_false, Bool.true_or, Bool.or_true, beq_self_eq_true]
      obtain rfl := sI h
      refine X_ret ?_
      simp -implicitDefEqProofs only [go_sem, seval, f1, f6, f56, hq, f49, f50, f51, f53, f54, f55]
      exact Rt.mv0 (BaseR.refl hob) (by simp) (vS)
   ·refine X_block ?_
    obtain ⟨lr1, hl1, hk1, hr1⟩ := aft2 h
    refine X_forN hl1 (fun (i1 : Nat) (s : Unit) as1 ob1 => [(3, V.ref ob.length 0), (5, V.ref (ob.length + 1) 0), (7, V.ref (ob.length + 2) 0), (44, V.agg [vint .i64 a2.D, vint .i64 a2.A, vint .i64 a2.B]), (45, vint .i64 (i1 : Int))] = as1 ∧ ob ++ [some (O.box [v0_0]), some (O.box [vint .i64 a2.Op, vint .i64 a2.D, vint .i64 a2.A, vint .i64 a2.B, vint .i64 a2.N, vint .i64 a2.M, v2_6]), some (O.box [V.tr (.sl 1 false (List.map (eI .i64) x5.Kinds)), V.tr (.sl 1 false (List.map (eI .i64) x5.Base)), vint .i64 x5.Params, vint .i64 x5.Result, V.tr (.sl 1 false (List.map e_Block x5.Blocks))])] = ob1) ⟨_, _, ?_, rfl, rfl⟩ ?_ ?_
    ·exact To.mv [(0, 0), (1, 0), (2, 0)] (BaseR.refl hob) (by simp) (by decide) (by simp only [go_sem]; exact ⟨VM.refA (j := 0) (t := 0) rfl, VM.refA (j := 1) (t := 1) rfl, VM.refA (j := 2) (t := 2) rfl, VM.agg ⟨vS, vS, vS, trivial⟩, VM.eqv (by simp) (by simp)⟩) ⟨⟨_, rfl, OM.box _ _ ⟨VM.self (by simpa using Bd.of_rdK hv0_0), trivial⟩⟩, ⟨_, rfl, OM.box _ _ ⟨vS, vS, vS, vS, vS, vS, VM.self (by simpa using Bd.of_rdK hv2_6), trivial⟩⟩, ⟨_, rfl, OM.box _ _ ⟨vS, vS, vS, vS, vS, trivial⟩⟩, trivial⟩
    ·rintro i1 _ o1 hi1 hw1 h ho1 as1 ob1 ⟨rfl, rfl⟩
     rw [kind_Fits.b1] at h
     refine X_sr (lx_ok γ) ?_
     simp -implicitDefEqProofs only [go_sem, seval, f1, hi1, hq]
     refine X_seq ?_
     refine X_cond (lx_ok γ) ?_
     simp -implicitDefEqProofs only [go_sem, seval, f1, hi1, hq]
     refine X_skip ?_
     try simp -implicitDefEqProofs only [go_sem]
     refine X_seq ?_
     refine X_block ?_
     refine X_sr (lx_ok γ) ?_
     obtain ⟨x19, f57, h⟩ := bindE h
     obtain ⟨f58, f59, f60⟩ := ixL_some f57
     replace f59 : (i1 : Int) < 3 := f59
     have f61 : Int.toNat (i1 : Int) + 1 ≤ 3 := by omega
     have f62 : List.take 1 (List.drop (Int.toNat (i1 : Int)) [vint .i64 a2.D, vint .i64 a2.A, vint .i64 a2.B]) = [vint .i64 x19] := takeV1_of (f := fun z => vint .i64 z) f60
     try simp only [Int.toNat_natCast] at f61 f62
     simp -implicitDefEqProofs only [go_sem, seval, f1, hi1, hq, f58, f59, f61, f62]
     refine X_sr (lx_ok γ) ?_
     obtain ⟨x20, f63, h⟩ := bindE h
     obtain ⟨f64, f65⟩ : 0 ≤ a2.Op ∧ a2.Op < 24 := by have := (chkB_some f63).1; rw [Bool.and_eq_true] at this; exact ⟨of_decide_eq_true this.1, of_decide_eq_true this.2⟩
     obtain ⟨x21, f66, h⟩ := bindE h
     obtain ⟨⟨f67, f68⟩, f66⟩ : (0 ≤ (i1 : Int) ∧ (i1 : Int) < 3) ∧ ixL rowsL (a2.Op * 3 + (i1 : Int)) = some x21 := by split at f66; exact ⟨by assumption, f66⟩; cases f66
     obtain ⟨f69, f70, f71⟩ := ixL_some f66
     have f72 : Int.toNat a2.Op * 3 + Int.toNat (i1 : Int) + 1 ≤ List.length rowsL := by have : List.length rowsL = 72 := rfl; omega
     have f73 : List.take 1 (List.drop (Int.toNat a2.Op * 3 + Int.toNat (i1 : Int)) rowsL) = [x21] := take1_of (by rw [show Int.toNat a2.Op * 3 + Int.toNat (i1 : Int) = Int.toNat (a2.Op * 3 + (i1 : Int)) by omega]; exact f71)
     try simp only [Int.toNat_natCast] at f72 f73
     simp -implicitDefEqProofs only [go_sem, seval, f1, hi1, hq, f64, f65, f67, f68, f72, f73]
     refine X_sr (lx_ok γ) ?_
     cases f74 : (x21 != (-1))
     ·rw [if_neg (nF f74)] at h
      simp -implicitDefEqProofs only [go_sem, seval, f1, hi1, f74, hq, f64, f65]
      refine X_condF (lx_ok γ) rfl ?_
      refine X_skip ?_
      try simp -implicitDefEqProofs only [go_sem]
      refine X_reg (lx_ok γ) ?_
      obtain rfl := sI h
      simp -implicitDefEqProofs only [go_sem, seval, f1, hi1, f74, hq, f64, f65]
      refine kR_in rfl ?_ ⟨rfl, rfl⟩
      exact To.mv [(0, 0), (1, 0), (2, 0)] (BaseR.refl hob) (by simp) (by decide) (by simp only [go_sem]; exact ⟨VM.refA (j := 0) (t := 0) rfl, VM.refA (j := 1) (t := 1) rfl, VM.refA (j := 2) (t := 2) rfl, VM.agg ⟨vS, vS, vS, trivial⟩, VM.eqv (by rw [hw1]) (by simp)⟩) ⟨⟨_, rfl, OM.box _ _ ⟨VM.self (by simpa using Bd.of_rdK hv0_0), trivial⟩⟩, ⟨_, rfl, OM.box _ _ ⟨vS, vS, vS, vS, vS, vS, VM.self (by simpa using Bd.of_rdK hv2_6), trivial⟩⟩, ⟨_, rfl, OM.box _ _ ⟨vS, vS, vS, vS, vS, trivial⟩⟩, trivial⟩
     ·rw [if_pos f74] at h
      obtain ⟨x22, f75, h⟩ := bindE h
      obtain ⟨f76, f77, f78⟩ := ixL_some f75
      try simp only [Int.toNat_natCast, Int.reduceToNat] at f78
      simp -implicitDefEqProofs only [go_sem, seval, f1, hi1, f74, hq, f64, f65, f76, f77, f78]
      cases f79 : (x22 != x21)
      ·rw [if_neg (nF f79)] at h
       refine X_cond (lx_ok γ) ?_
       simp -implicitDefEqProofs only [go_sem, seval, f1, hi1, f74, f79, hq, f64, f65, f76, f77, f78]
       refine X_skip ?_
       try simp -implicitDefEqProofs only [go_sem]
       refine X_reg (lx_ok γ) ?_
       obtain rfl := sI h
       simp -implicitDefEqProofs only [go_sem, seval, f1, hi1, f74, f79, hq, f64, f65]
       refine kR_in rfl ?_ ⟨rfl, rfl⟩
       exact To.mv [(0, 0), (1, 0), (2, 0)] (BaseR.refl hob) (by simp) (by decide) (by simp only [go_sem]; exact ⟨VM.refA (j := 0) (t := 0) rfl, VM.refA (j := 1) (t := 1) rfl, VM.refA (j := 2) (t := 2) rfl, VM.agg ⟨vS, vS, vS, trivial⟩, VM.eqv (by rw [hw1]) (by simp)⟩) ⟨⟨_, rfl, OM.box _ _ ⟨VM.self (by simpa using Bd.of_rdK hv0_0), trivial⟩⟩, ⟨_, rfl, OM.box _ _ ⟨vS, vS, vS, vS, vS, vS, VM.self (by simpa using Bd.of_rdK hv2_6), trivial⟩⟩, ⟨_, rfl, OM.box _ _ ⟨vS, vS, vS, vS, vS, trivial⟩⟩, trivial⟩
      ·rw [if_pos f79] at h
       refine X_cond (lx_ok γ) ?_
       simp -implicitDefEqProofs only [go_sem, seval, f1, hi1, f74, f79, hq, f64, f65, f76, f77, f78]
       refine X_sr (lx_ok γ) ?_
       simp -implicitDefEqProofs only [go_sem, seval, f1, hi1, f74, f79, hq, f64, f65]
       obtain rfl := sI h
       have h := hr1 _ (ho1 (fun _ hs => nomatch hs))
       obtain rfl := sI h
       refine X_ret ?_
       simp -implicitDefEqProofs only [go_sem, seval, f1, hi1, f74, f79, hq, f64, f65]
       exact Rt.mv0 (BaseR.refl hob) (by simp) (vS)
    ·rintro i1 _ hi1 hn1 as1 ob1 ⟨rfl, rfl⟩
     refine X_sr (lx_ok γ) ?_
     simp -implicitDefEqProofs only [go_sem, seval, f1, hi1, hq]
     refine X_seq ?_
     refine X_cond (lx_ok γ) ?_
     simp -implicitDefEqProofs only [go_sem, seval, f1, hi1, hq]
     have h := hk1 _ (.inl hn1)
     refine X_exit ?_
     try simp -implicitDefEqProofs only [go_sem, ↓reduceIte, Nat.reduceEqDiff, reduceCtorEq]
     refine kJ_in ?_ ⟨h, rfl, rfl⟩
     exact To.mv [(0, 0), (1, 0), (2, 0)] (BaseR.refl hob) (by simp) (by decide) (by simp only [go_sem]; exact ⟨VM.refA (j := 0) (t := 0) rfl, VM.refA (j := 1) (t := 1) rfl, VM.refA (j := 2) (t := 2) rfl⟩) ⟨⟨_, rfl, OM.box _ _ ⟨VM.self (by simpa using Bd.of_rdK hv0_0), trivial⟩⟩, ⟨_, rfl, OM.box _ _ ⟨vS, vS, vS, vS, vS, vS, VM.self (by simpa using Bd.of_rdK hv2_6), trivial⟩⟩, ⟨_, rfl, OM.box _ _ ⟨vS, vS, vS, vS, vS, trivial⟩⟩, trivial⟩
  ·rw [if_pos f1] at h
   refine X_cond (lx_ok γ) ?_
   simp -implicitDefEqProofs only [go_sem, seval, f1, hq]
   refine X_sr (lx_ok γ) ?_
   simp -implicitDefEqProofs only [go_sem, seval, f1, hq]
   obtain rfl := sI h
   refine X_ret ?_
   simp -implicitDefEqProofs only [go_sem, seval, f1, hq]
   exact Rt.mv0 (BaseR.refl hob) (by simp) (vS)
 ·refine X_reg (lx_ok γ) ?_
  cases f80 : decide (a1 < 0)
  ·rw [if_neg (nF f80)] at h
   cases f81 : decide ((List.length a0.Funcs : Int) ≤ a1)
   ·rw [if_neg (nF f81)] at h
    cases f82 : decide (a2.Op < 0)
    ·rw [if_neg (nF f82)] at h
     simp -implicitDefEqProofs only [go_sem, seval, f80, f81, f82, hq]
     refine kJ_in ?_ ⟨(decide (24 ≤ a2.Op)), h, rfl, rfl⟩
     exact To.mv [(0, 0), (1, 0)] (BaseR.refl hob) (by simp) (by decide) (by simp only [go_sem]; exact ⟨vS, VM.refA (j := 0) (t := 0) rfl, VM.refA (j := 1) (t := 1) rfl, vS⟩) ⟨⟨_, rfl, OM.box _ _ ⟨VM.self (by simpa using Bd.of_rdK hv0_0), trivial⟩⟩, ⟨_, rfl, OM.box _ _ ⟨vS, vS, vS, vS, vS, vS, VM.self (by simpa using Bd.of_rdK hv2_6), trivial⟩⟩, trivial⟩
    ·rw [if_pos f82] at h
     simp -implicitDefEqProofs only [go_sem, seval, f80, f81, f82, hq]
     refine kJ_in ?_ ⟨true, h, rfl, rfl⟩
     exact To.mv [(0, 0), (1, 0)] (BaseR.refl hob) (by simp) (by decide) (by simp only [go_sem]; exact ⟨vS, VM.refA (j := 0) (t := 0) rfl, VM.refA (j := 1) (t := 1) rfl, vS⟩) ⟨⟨_, rfl, OM.box _ _ ⟨VM.self (by simpa using Bd.of_rdK hv0_0), trivial⟩⟩, ⟨_, rfl, OM.box _ _ ⟨vS, vS, vS, vS, vS, vS, VM.self (by simpa using Bd.of_rdK hv2_6), trivial⟩⟩, trivial⟩
   ·rw [if_pos f81] at h
    simp -implicitDefEqProofs only [go_sem, seval, f80, f81, hq]
    refine kJ_in ?_ ⟨true, h, rfl, rfl⟩
    exact To.mv [(0, 0), (1, 0)] (BaseR.refl hob) (by simp) (by decide) (by simp only [go_sem]; exact ⟨vS, VM.refA (j := 0) (t := 0) rfl, VM.refA (j := 1) (t := 1) rfl, vS⟩) ⟨⟨_, rfl, OM.box _ _ ⟨VM.self (by simpa using Bd.of_rdK hv0_0), trivial⟩⟩, ⟨_, rfl, OM.box _ _ ⟨vS, vS, vS, vS, vS, vS, VM.self (by simpa using Bd.of_rdK hv2_6), trivial⟩⟩, trivial⟩
  ·rw [if_pos f80] at h
   simp -implicitDefEqProofs only [go_sem, seval, f80, hq]
   refine kJ_in ?_ ⟨true, h, rfl, rfl⟩
   exact To.mv [(0, 0), (1, 0)] (BaseR.refl hob) (by simp) (by decide) (by simp only [go_sem]; exact ⟨vS, VM.refA (j := 0) (t := 0) rfl, VM.refA (j := 1) (t := 1) rfl, vS⟩) ⟨⟨_, rfl, OM.box _ _ ⟨VM.self (by simpa using Bd.of_rdK hv0_0), trivial⟩⟩, ⟨_, rfl, OM.box _ _ ⟨vS, vS, vS, vS, vS, vS, VM.self (by simpa using Bd.of_rdK hv2_6), trivial⟩⟩, trivial⟩
end Go.Pf
end
section
set_option maxRecDepth 100000
namespace Go.Pf
open Go Go.Ab Go.Pp Go.Proofs Go.Proofs.S08
attribute [local go_sem] Lxτ Lxγ gam0 gam1 Int.toNat_natCast tau3 tau4 tau22 tau24 tau25 tau27 tau33 tau35 tau36 tau38 eI eB eS e_Ins e_Block e_Func e_Prog e_kind_state eL_Intu64
set_option maxHeartbeats 1000000 in
theorem kind_fit_ok (γ : GT) (ob : OT) {a0 : Prog} {v0_0 : V} (hv0_0 : rdK (getO ob) 5 v0_0 = some (List.map e_Func a0.Funcs)) {r : Bool} (h : kind_fit a0 = some r) :
  Valid (Lx γ) 29 [V.agg [v0_0]] ob (vbool r) ob := by
 refine valid_X (lx_ok γ) (fn := Tryd.f29) (rs := [.tmp 2]) Tryd.func29 (by kernel_rfl) rfl rfl Tryd.ntmps29 rfl (by simp) fun hb hob => ?_
 have hq := rd4 hv0_0
 rw [kind_fit] at h
 refine X_sr (lx_ok γ) ?_
 simp -implicitDefEqProofs only [go_sem, seval, hq]
 refine X_seq ?_
 refine X_sr (lx_ok γ) ?_
 simp -implicitDefEqProofs only [go_sem, seval, hq]
 refine X_jq (J := fun as1 ob1 => kind_fit.k1 = some r ∧ [] = as1 ∧ ob = ob1) ?_ ?_
 ·rintro as1 ob1 ⟨h, rfl, rfl⟩
  rw [kind_fit.k1] at h
  simp -implicitDefEqProofs only [go_sem, seval, hq]
  refine X_sr (lx_ok γ) ?_
  simp -implicitDefEqProofs only [go_sem, seval, hq]
  obtain rfl := sI h
  refine X_ret ?_
  simp -implicitDefEqProofs only [go_sem, seval, hq]
  exact Rt.mv1 (BaseR.refl hob) (by simp) (vS)
 ·refine X_block ?_
  obtain ⟨lr1, hl1, hk1, hr1⟩ := aft2 h
  refine X_forN hl1 (fun (i1 : Nat) (s : Unit) as1 ob1 => [(1, V.ref ob.length 0), (10, v0_0), (11, vint .i64 (List.length a0.Funcs : Int)), (12, vint .i64 (i1 : Int))] = as1 ∧ ob ++ [some (O.box [v0_0])] = ob1) ⟨_, _, ?_, rfl, rfl⟩ ?_ ?_
  ·exact To.mv [(0, 0)] (BaseR.refl hob) (by simp) (by decide) (by simp only [go_sem]; exact ⟨VM.refA (j := 0) (t := 0) rfl, VM.self (by simpa using Bd.of_rdK hv0_0), vS, VM.eqv (by simp) (by simp)⟩) ⟨⟨_, rfl, OM.box _ _ ⟨VM.self (by simpa using Bd.of_rdK hv0_0), trivial⟩⟩, trivial⟩
  ·rintro i1 _ o1 hi1 hw1 h ho1 as1 ob1 ⟨rfl, rfl⟩
   rw [kind_fit.b1] at h
   refine X_sr (lx_ok γ) ?_
   simp -implicitDefEqProofs only [go_sem, seval, hi1, hq]
   refine X_seq ?_
   refine X_cond (lx_ok γ) ?_
   simp -implicitDefEqProofs only [go_sem, seval, hi1, hq]
   refine X_skip ?_
   try simp -implicitDefEqProofs only [go_sem]
   refine X_seq ?_
   refine X_block ?_
   refine X_sr (lx_ok γ) ?_
   obtain ⟨x2, f1, h⟩ := bindE h
   obtain ⟨f2, f3⟩ := ixL_nat f1
   have f4 : (0 : Int) ≤ (i1 : Int) := Int.natCast_nonneg _
   simp -implicitDefEqProofs only [go_sem, seval, hi1, hq, f2, f3, f4]
   refine X_sr (lx_ok γ) ?_
   simp -implicitDefEqProofs only [go_sem, seval, hi1, hq]
   refine X_jq (J := fun as1 ob1 => kind_fit.k2 = some o1 ∧ [(1, V.ref ob.length 0), (10, v0_0), (11, vint .i64 (List.length a0.Funcs : Int)), (12, vint .i64 (i1 : Int))] = as1 ∧ ob ++ [some (O.box [v0_0])] = ob1) ?_ ?_
   ·rintro as1 ob1 ⟨h, rfl, rfl⟩
    rw [kind_fit.k2] at h
    simp -implicitDefEqProofs only [go_sem, seval, hi1, hq]
    refine X_reg (lx_ok γ) ?_
    obtain rfl := sI h
    simp -implicitDefEqProofs only [go_sem, seval, hi1, hq]
    refine kR_in rfl ?_ ⟨rfl, rfl⟩
    exact To.mv [(0, 0)] (BaseR.refl hob) (by simp) (by decide) (by simp only [go_sem]; exact ⟨VM.refA (j := 0) (t := 0) rfl, VM.self (by simpa using Bd.of_rdK hv0_0), vS, VM.eqv (by rw [hw1]) (by simp)⟩) ⟨⟨_, rfl, OM.box _ _ ⟨VM.self (by simpa using Bd.of_rdK hv0_0), trivial⟩⟩, trivial⟩
   ·refine X_block ?_
    obtain ⟨lr2, hl2, hk2, hr2⟩ := aft2 h
    refine X_forN hl2 (fun (i2 : Nat) (s : Unit) as1 ob1 => [(1, V.ref ob.length 0), (3, vint .i64 (i1 : Int)), (10, v0_0), (11, vint .i64 (List.length a0.Funcs : Int)), (12, vint .i64 (i1 : Int)), (18, V.tr (.sl 1 false (List.map e_Block x2.Blocks))), (19, vint .i64 (List.length x2.Blocks : Int)), (20, vint .i64 (i2 : Int))] = as1 ∧ ob ++ [some (O.box [v0_0])] = ob1) ⟨_, _, ?_, rfl, rfl⟩ ?_ ?_
    ·exact To.mv [(0, 0)] (BaseR.refl hob) (by simp) (by decide) (by simp only [go_sem]; exact ⟨VM.refA (j := 0) (t := 0) rfl, vS, VM.self (by simpa using Bd.of_rdK hv0_0), vS, vS, vS, vS, VM.eqv (by simp) (by simp)⟩) ⟨⟨_, rfl, OM.box _ _ ⟨VM.self (by simpa using Bd.of_rdK hv0_0), trivial⟩⟩, trivial⟩
    ·rintro i2 _ o2 hi2 hw2 h ho2 as1 ob1 ⟨rfl, rfl⟩
     rw [kind_fit.b2] at h
     refine X_sr (lx_ok γ) ?_
     simp -implicitDefEqProofs only [go_sem, seval, hi1, hi2, hq]
     refine X_seq ?_
     refine X_cond (lx_ok γ) ?_
     simp -implicitDefEqProofs only [go_sem, seval, hi1, hi2, hq]
     refine X_skip ?_
     try simp -implicitDefEqProofs only [go_sem]
     refine X_seq ?_
     refine X_block ?_
     refine X_sr (lx_ok γ) ?_
     obtain ⟨x4, f5, h⟩ := bindE h
     obtain ⟨f6, f7⟩ := ixL_nat f5
     have f8 : (0 : Int) ≤ (i2 : Int) := Int.natCast_nonneg _
     simp -implicitDefEqProofs only [go_sem, seval, hi1, hi2, hq, f6, f7, f8]
     refine X_sr (lx_ok γ) ?_
     simp -implicitDefEqProofs only [go_sem, seval, hi1, hi2, hq]
     refine X_jq (J := fun as1 ob1 => kind_fit.k3 = some o2 ∧ [(1, V.ref ob.length 0), (3, vint .i64 (i1 : Int)), (10, v0_0), (11, vint .i64 (List.length a0.Funcs : Int)), (12, vint .i64 (i1 : Int)), (18, V.tr (.sl 1 false (List.map e_Block x2.Blocks))), (19, vint .i64 (List.length x2.Blocks : Int)), (20, vint .i64 (i2 : Int))] = as1 ∧ ob ++ [some (O.box [v0_0])] = ob1) ?_ ?_
     ·rintro as1 ob1 ⟨h, rfl, rfl⟩
      rw [kind_fit.k3] at h
      simp -implicitDefEqProofs only [go_sem, seval, hi1, hi2, hq]
      refine X_reg (lx_ok γ) ?_
      obtain rfl := sI h
      simp -implicitDefEqProofs only [go_sem, seval, hi1, hi2, hq]
      refine kR_in rfl ?_ ⟨rfl, rfl⟩
      exact To.mv [(0, 0)] (BaseR.refl hob) (by simp) (by decide) (by simp only [go_sem]; exact ⟨VM.refA (j := 0) (t := 0) rfl, vS, VM.self (by simpa using Bd.of_rdK hv0_0), vS, vS, vS, vS, VM.eqv (by rw [hw2]) (by simp)⟩) ⟨⟨_, rfl, OM.box _ _ ⟨VM.self (by simpa using Bd.of_rdK hv0_0), trivial⟩⟩, trivial⟩
     ·refine X_block ?_
      obtain ⟨lr3, hl3, hk3, hr3⟩ := aft2 h
      refine X_forN hl3 (fun (i3 : Nat) (s : Unit) as1 ob1 => [(1, V.ref ob.length 0), (3, vint .i64 (i1 : Int)), (10, v0_0), (11, vint .i64 (List.length a0.Funcs : Int)), (12, vint .i64 (i1 : Int)), (18, V.tr (.sl 1 false (List.map e_Block x2.Blocks))), (19, vint .i64 (List.length x2.Blocks : Int)), (20, vint .i64 (i2 : Int)), (25, V.tr (.sl 7 false (List.map e_Ins x4.Code))), (26, vint .i64 (List.length x4.Code : Int)), (27, vint .i64 (i3 : Int))] = as1 ∧ ob ++ [some (O.box [v0_0])] = ob1) ⟨_, _, ?_, rfl, rfl⟩ ?_ ?_
      ·exact To.mv [(0, 0)] (BaseR.refl hob) (by simp) (by decide) (by simp only [go_sem]; exact ⟨VM.refA (j := 0) (t := 0) rfl, vS, VM.self (by simpa using Bd.of_rdK hv0_0), vS, vS, vS, vS, vS, vS, vS, VM.eqv (by simp) (by simp)⟩) ⟨⟨_, rfl, OM.box _ _ ⟨VM.self (by simpa using Bd.of_rdK hv0_0), trivial⟩⟩, trivial⟩
      ·rintro i3 _ o3 hi3 hw3 h ho3 as1 ob1 ⟨rfl, rfl⟩
       rw [kind_fit.b3] at h
       refine X_sr (lx_ok γ) ?_
       simp -implicitDefEqProofs only [go_sem, seval, hi1, hi2, hi3, hq]
       refine X_seq ?_
       refine X_cond (lx_ok γ) ?_
       simp -implicitDefEqProofs only [go_sem, seval, hi1, hi2, hi3, hq]
       refine X_skip ?_
       try simp -implicitDefEqProofs only [go_sem]
       refine X_seq ?_
       refine X_block ?_
       refine X_sr (lx_ok γ) ?_
       obtain ⟨x6, f9, h⟩ := bindE h
       obtain ⟨f10, f11⟩ := ixL_nat f9
       have f12 : (0 : Int) ≤ (i3 : Int) := Int.natCast_nonneg _
       simp -implicitDefEqProofs only [go_sem, seval, hi1, hi2, hi3, hq, f10, f11, f12]
       refine X_sr (lx_ok γ) ?_
       obtain ⟨x7, f13, h⟩ := bindE h
       simp -implicitDefEqProofs only [go_sem, seval, hi1, hi2, hi3, hq]
       refine callV_eq (kind_Fits_ok γ _ (by first | exact rdK_app hv0_0 | exact hv0_0) (by simp -implicitDefEqProofs only [go_sem, seval, hi1, hi2, hi3, hq]; try rfl) f13) rfl rfl ?_
       simp -implicitDefEqProofs only [go_sem, seval, hi1, hi2, hi3, hq]
       cases f14 : x7
       ·rw [if_neg (nF f14)] at h
        refine X_cond (lx_ok γ) ?_
        simp -implicitDefEqProofs only [go_sem, seval, hi1, hi2, hi3, f14, hq]
        refine X_sr (lx_ok γ) ?_
        simp -implicitDefEqProofs only [go_sem, seval, hi1, hi2, hi3, f14, hq]
        obtain rfl := sI h
        have h := hr3 _ (ho3 (fun _ hs => nomatch hs))
        obtain rfl := sI h
        have h := hr2 _ (ho2 (fun _ hs => nomatch hs))
        obtain rfl := sI h
        have h := hr1 _ (ho1 (fun _ hs => nomatch hs))
        obtain rfl := sI h
        refine X_ret ?_
        simp -implicitDefEqProofs only [go_sem, seval, hi1, hi2, hi3, f14, hq]
        exact Rt.mv0 (BaseR.refl hob) (by simp) (vS)
       ·rw [if_pos f14] at h
        refine X_cond (lx_ok γ) ?_
        simp -implicitDefEqProofs only [go_sem, seval, hi1, hi2, hi3, f14, hq]
        refine X_skip ?_
        try simp -implicitDefEqProofs only [go_sem]
        refine X_reg (lx_ok γ) ?_
        obtain rfl := sI h
        simp -implicitDefEqProofs only [go_sem, seval, hi1, hi2, hi3, f14, hq]
        refine kR_in rfl ?_ ⟨rfl, rfl⟩
        exact To.mv [(0, 0)] (BaseR.refl hob) (by simp) (by decide) (by simp only [go_sem]; exact ⟨VM.refA (j := 0) (t := 0) rfl, vS, VM.self (by simpa using Bd.of_rdK hv0_0), vS, vS, vS, vS, vS, vS, vS, VM.eqv (by rw [hw3]) (by simp)⟩) ⟨⟨_, rfl, OM.box _ _ ⟨VM.self (by simpa using Bd.of_rdK hv0_0), trivial⟩⟩, trivial⟩
      ·rintro i3 _ hi3 hn3 as1 ob1 ⟨rfl, rfl⟩
       refine X_sr (lx_ok γ) ?_
       simp -implicitDefEqProofs only [go_sem, seval, hi1, hi2, hi3, hq]
       refine X_seq ?_
       refine X_cond (lx_ok γ) ?_
       simp -implicitDefEqProofs only [go_sem, seval, hi1, hi2, hi3, hq]
       have h := hk3 _ (.inl hn3)
       refine X_exit ?_
       try simp -implicitDefEqProofs only [go_sem, ↓reduceIte, Nat.reduceEqDiff, reduceCtorEq]
       refine kJ_in ?_ ⟨h, rfl, rfl⟩
       exact To.mv [(0, 0)] (BaseR.refl hob) (by simp) (by decide) (by simp only [go_sem]; exact ⟨VM.refA (j := 0) (t := 0) rfl, vS, VM.self (by simpa using Bd.of_rdK hv0_0), vS, vS, vS, vS, vS⟩) ⟨⟨_, rfl, OM.box _ _ ⟨VM.self (by simpa using Bd.of_rdK hv0_0), trivial⟩⟩, trivial⟩
    ·rintro i2 _ hi2 hn2 as1 ob1 ⟨rfl, rfl⟩
     refine X_sr (lx_ok γ) ?_
     simp -implicitDefEqProofs only [go_sem, seval, hi1, hi2, hq]
     refine X_seq ?_
     refine X_cond (lx_ok γ) ?_
     simp -implicitDefEqProofs only [go_sem, seval, hi1, hi2, hq]
     have h := hk2 _ (.inl hn2)
     refine X_exit ?_
     try simp -implicitDefEqProofs only [go_sem, ↓reduceIte, Nat.reduceEqDiff, reduceCtorEq]
     refine kJ_in ?_ ⟨h, rfl, rfl⟩
     exact To.mv [(0, 0)] (BaseR.refl hob) (by simp) (by decide) (by simp only [go_sem]; exact ⟨VM.refA (j := 0) (t := 0) rfl, VM.self (by simpa using Bd.of_rdK hv0_0), vS, vS⟩) ⟨⟨_, rfl, OM.box _ _ ⟨VM.self (by simpa using Bd.of_rdK hv0_0), trivial⟩⟩, trivial⟩
  ·rintro i1 _ hi1 hn1 as1 ob1 ⟨rfl, rfl⟩
   refine X_sr (lx_ok γ) ?_
   simp -implicitDefEqProofs only [go_sem, seval, hi1, hq]
   refine X_seq ?_
   refine X_cond (lx_ok γ) ?_
   simp -implicitDefEqProofs only [go_sem, seval, hi1, hq]
   have h := hk1 _ (.inl hn1)
   refine X_exit ?_
   try simp -implicitDefEqProofs only [go_sem, ↓reduceIte, Nat.reduceEqDiff, reduceCtorEq]
   refine kJ_in ?_ ⟨h, rfl, rfl⟩
   exact To.mv0 (BaseR.refl hob) (by simp) trivial
end Go.Pf
end
section
set_option maxRecDepth 100000
namespace Go.Pf
open Go Go.Ab Go.Pp Go.Proofs Go.Proofs.S08
attribute [local go_sem] Lxτ Lxγ gam0 gam1 Int.toNat_natCast tau41 tau64 eI eB eS e_Ins e_Block e_Func e_Prog e_kind_state eL_Intu64
theorem slices_Clone_uint64_ok (γ : GT) (ob : OT) {a0 : List Int} {v0 : V} (hv0 : rdK (getO ob) 1 v0 = some (List.map (eI .u64) a0)) {r : List Int} (h : slices_Clone_uint64 a0 = some r) :
  Valid (Lx γ) 67 [v0] ob (V.row ob.length 0 0 (List.length r)) (ob ++ [some (O.row 1 0 (List.map (eI .u64) r))]) := by
 rw [slices_Clone_uint64] at h
 have hn : List.length a0 * 8 ≤ 140737488355328 := by simpa using (appL_some h).1
 obtain rfl : r = a0 := by simpa using (appL_some h).2
 refine valid_W (lx_ok γ) (fn := Tryd.f67) (rs := [.tmp 2]) Tryd.func67 (by kernel_rfl) rfl rfl Tryd.ntmps67 (Nat.le_of_ble_eq_true rfl) (by simp) fun hb hob => ?_
 obtain ⟨k', hs⟩ := rdK_rdS hv0
 simp -implicitDefEqProofs only [go_sem, seval, hs, rdK_app hv0, hv0, hn]
 refine ⟨fun h0 => ?_, ?_⟩
 ·have : r = [] := by simpa using h0
  subst this
  exact Rt.nilRow
 ·exact Rt.row (j := 0) hob rfl rfl
end Go.Pf
end
section
set_option maxRecDepth 100000
namespace Go.Pf
open Go Go.Ab Go.Pp Go.Proofs Go.Proofs.S08
attribute [local go_sem] Lxτ Lxγ gam0 gam1 Int.toNat_natCast tau3 tau41 tau64 eI eB eS e_Ins e_Block e_Func e_Prog e_kind_state eL_Intu64
set_option maxHeartbeats 1000000 in
theorem bitset_neat_ok (γ : GT) (ob : OT) {a0 : List Int} {r : List Int} (h : bitset_neat a0 = some r) :
  Valid (Lx γ) 68 [V.tr (.sl 1 false (List.map (eI .u64) a0))] ob (V.tr (.sl 1 false (List.map (eI .u64) r))) ob := by
 refine valid_X (lx_ok γ) (fn := Tryd.f68) (rs := [.tmp 2]) Tryd.func68 (by kernel_rfl) rfl rfl Tryd.ntmps68 rfl (by simp) fun hb hob => ?_
 rw [bitset_neat] at h
 refine X_sr (lx_ok γ) ?_
 simp -implicitDefEqProofs only [go_sem, seval]
 refine X_seq ?_
 refine X_jq (J := fun as1 ob1 => ∃ (x1 : List Int), bitset_neat.k1 x1 = some r ∧ [(0, V.tr (.sl 1 false (List.map (eI .u64) x1)))] = as1 ∧ ob = ob1) ?_ ?_
 ·rintro as1 ob1 ⟨x1, h, rfl, rfl⟩
  rw [bitset_neat.k1] at h
  simp -implicitDefEqProofs only [go_sem, seval]
  refine X_sr (lx_ok γ) ?_
  simp -implicitDefEqProofs only [go_sem, seval]
  obtain rfl := sI h
  refine X_ret ?_
  simp -implicitDefEqProofs only [go_sem, seval]
  exact Rt.mv1 (BaseR.refl hob) (by simp) (vS)
 ·refine X_block ?_
  obtain ⟨lr1, hl1, hk1, hr1⟩ := aft2 h
  refine X_while hl1 (fun (s : (List Int)) as1 ob1 => [(0, V.tr (.sl 1 false (List.map (eI .u64) s)))] = as1 ∧ ob = ob1) ⟨_, _, ?_, rfl, rfl⟩ ?_
  ·exact To.mv1 (BaseR.refl hob) (by simp) (by simp only [go_sem]; exact vS)
  ·rintro x1 o1 h ho1 as1 ob1 ⟨rfl, rfl⟩
   rw [bitset_neat.b1] at h
   refine X_seq ?_
   refine X_sr (lx_ok γ) ?_
   cases f1 : decide (0 < (List.length x1 : Int))
   ·rw [if_neg (nF f1)] at h
    simp -implicitDefEqProofs only [go_sem, seval, f1]
    refine X_condF (lx_ok γ) rfl ?_
    obtain rfl := sI h
    have h := hk1 _ (.inr (ho1 (fun _ hs => nomatch hs)))
    refine X_exit ?_
    try simp -implicitDefEqProofs only [go_sem, ↓reduceIte, Nat.reduceEqDiff, reduceCtorEq]
    refine kJ_in ?_ ⟨x1, h, rfl, rfl⟩
    exact To.mv1 (BaseR.refl hob) (by simp) (by simp only [go_sem]; exact vS)
   ·rw [if_pos f1] at h
    obtain ⟨x2, f2, h⟩ := bindE h
    obtain ⟨f3, f4, f5⟩ := ixL_some f2
    try simp only [Int.toNat_natCast, Int.reduceToNat] at f5
    simp -implicitDefEqProofs only [go_sem, seval, f1, f3, f4, f5]
    cases f6 : (x2 == 0)
    ·rw [if_neg (nF f6)] at h
     refine X_cond (lx_ok γ) ?_
     simp -implicitDefEqProofs only [go_sem, seval, f1, f6, f3, f4, f5]
     obtain rfl := sI h
     have h := hk1 _ (.inr (ho1 (fun _ hs => nomatch hs)))
     refine X_exit ?_
     try simp -implicitDefEqProofs only [go_sem, ↓reduceIte, Nat.reduceEqDiff, reduceCtorEq]
     refine kJ_in ?_ ⟨x1, h, rfl, rfl⟩
     exact To.mv1 (BaseR.refl hob) (by simp) (by simp only [go_sem]; exact vS)
    ·rw [if_pos f6] at h
     refine X_cond (lx_ok γ) ?_
     simp -implicitDefEqProofs only [go_sem, seval, f1, f6, f3, f4, f5]
     refine X_skip ?_
     try simp -implicitDefEqProofs only [go_sem]
     refine X_block ?_
     refine X_reg (lx_ok γ) ?_
     obtain ⟨x3, f7, h⟩ := bindE h
     obtain ⟨f8, f9, f10⟩ := headL_some f7
     try simp only [Int.toNat_natCast, Int.reduceToNat] at f9 f10
     obtain rfl := sI h
     simp -implicitDefEqProofs only [go_sem, seval, f1, f6, f8, f9, f10]
     refine kR_in rfl ?_ ⟨rfl, rfl⟩
     exact To.mv1 (BaseR.refl hob) (by simp) (by simp only [go_sem]; exact vS)
end Go.Pf
end
section
set_option maxRecDepth 100000
namespace Go.Pf
open Go Go.Ab Go.Pp Go.Proofs Go.Proofs.S08
attribute [local go_sem] Lxτ Lxγ gam0 gam1 Int.toNat_natCast tau3 tau25 tau41 tau64 eI eB eS e_Ins e_Block e_Func e_Prog e_kind_state eL_Intu64
set_option maxHeartbeats 1000000 in
theorem bitset_With_ok (γ : GT) (ob : OT) {a0 : List Int} {v0 : V} {a1 : List Int} {v1 : V} (hv0 : rdK (getO ob) 1 v0 = some (List.map (eI .u64) a0)) (hv1 : rdK (getO ob) 1 v1 = some (List.map (eI .i64) a1)) {r : List Int} (h : bitset_With a0 a1 = some r) :
  Valid (Lx γ) 45 [v0, v1] ob (V.tr (.sl 1 false (List.map (eI .u64) r))) ob := by
 refine valid_X (lx_ok γ) (fn := Tryd.f45) (rs := [.tmp 4]) Tryd.func45 (by kernel_rfl) rfl rfl Tryd.ntmps45 rfl (by simp) fun hb hob => ?_
 have hq := And.intro (rd4 hv0) (rd4 hv1)
 rw [bitset_With] at h
 refine X_sr (lx_ok γ) ?_
 simp -implicitDefEqProofs only [go_sem, seval, hq]
 refine X_sr (lx_ok γ) ?_
 obtain ⟨x1, f1, h⟩ := bindE h
 simp -implicitDefEqProofs only [go_sem, seval, hq]
 refine callV_eq (slices_Clone_uint64_ok γ _ (by first | exact rdK_app hv0 | exact hv0) f1) rfl rfl ?_
 simp -implicitDefEqProofs only [go_sem, seval, hq]
 refine X_seq ?_
 refine X_sr (lx_ok γ) ?_
 simp -implicitDefEqProofs only [go_sem, seval, hq]
 refine X_jq (J := fun as1 ob1 => ∃ (x2 : List Int), bitset_With.k1 x2 = some r ∧ [(0, V.row ob.length 0 0 (List.length x2))] = as1 ∧ ob ++ [some (O.row 1 0 (List.map (eI .u64) x2))] = ob1) ?_ ?_
 ·rintro as1 ob1 ⟨x2, h, rfl, rfl⟩
  rw [bitset_With.k1] at h
  simp -implicitDefEqProofs only [go_sem, seval, hq]
  refine X_sr (lx_ok γ) ?_
  obtain ⟨x4, f2, h⟩ := bindE h
  simp -implicitDefEqProofs only [go_sem, seval, hq]
  refine callV_eq (Valid.frzR (b := ob) (l := [some (O.row 1 0 (List.map (eI .u64) x2))]) (l' := [none]) (args := [V.row ob.length 0 0 (List.length x2)]) (args' := [V.tr (.sl 1 false (List.map (eI .u64) x2))]) 0 rfl rfl ⟨VZ.row (by first | rfl | simp), trivial⟩ (bitset_neat_ok γ _  f2)) rfl rfl ?_
  simp -implicitDefEqProofs only [go_sem, seval, hq]
  obtain rfl := sI h
  refine X_ret ?_
  simp -implicitDefEqProofs only [go_sem, seval, hq]
  exact Rt.mv0 (BaseR.refl hob) (by simp) (vS)
 ·refine X_block ?_
  obtain ⟨lr1, hl1, hk1, hr1⟩ := aft2 h
  refine X_forN hl1 (fun (i1 : Nat) (s : (List Int)) as1 ob1 => [(0, V.row ob.length 0 0 (List.length s)), (10, v1), (11, vint .i64 (List.length a1 : Int)), (12, vint .i64 (i1 : Int))] = as1 ∧ ob ++ [some (O.row 1 0 (List.map (eI .u64) s))] = ob1) ⟨_, _, ?_, rfl, rfl⟩ ?_ ?_
  ·exact To.mv [(0, 0)] (BaseR.refl hob) (by simp) (by decide) (by simp only [go_sem]; exact ⟨VM.rowL (j := 0) (t := 0) rfl (by first | rfl | omega | (simp [*]; done) | simp | simp_all), VM.self (by simpa using Bd.of_rdK hv1), vS, VM.eqv (by simp) (by simp)⟩) ⟨⟨_, rfl, OM.row' (by first | rfl | simp_all)⟩, trivial⟩
  ·rintro i1 x2 o1 hi1 hw1 h ho1 as1 ob1 ⟨rfl, rfl⟩
   rw [bitset_With.b1] at h
   refine X_sr (lx_ok γ) ?_
   simp -implicitDefEqProofs only [go_sem, seval, hi1, hq]
   refine X_seq ?_
   refine X_cond (lx_ok γ) ?_
   simp -implicitDefEqProofs only [go_sem, seval, hi1, hq]
   refine X_skip ?_
   try simp -implicitDefEqProofs only [go_sem]
   refine X_seq ?_
   refine X_block ?_
   refine X_sr (lx_ok γ) ?_
   obtain ⟨x5, f3, h⟩ := bindE h
   obtain ⟨f4, f5⟩ := ixL_nat f3
   have f6 : (0 : Int) ≤ (i1 : Int) := Int.natCast_nonneg _
   simp -implicitDefEqProofs only [go_sem, seval, hi1, hq, f4, f5, f6]
   refine X_seq ?_
   refine X_seq ?_
   refine X_jq (J := fun as1 ob1 => ∃ (x7 : Bool), bitset_With.j1 x2 x5 x7 = some o1 ∧ [(0, V.row ob.length 0 0 (List.length x2)), (6, vint .i64 x5), (10, v1), (11, vint .i64 (List.length a1 : Int)), (12, vint .i64 (i1 : Int)), (21, vbool x7)] = as1 ∧ ob ++ [some (O.row 1 0 (List.map (eI .u64) x2))] = ob1) ?_ ?_
   ·rintro as1 ob1 ⟨x7, h, rfl, rfl⟩
    rw [bitset_With.j1] at h
    simp -implicitDefEqProofs only [go_sem, seval, hi1, hq]
    cases f7 : x7
    ·rw [if_neg (nF f7)] at h
     refine X_cond (lx_ok γ) ?_
     simp -implicitDefEqProofs only [go_sem, seval, hi1, f7, hq]
     refine X_skip ?_
     try simp -implicitDefEqProofs only [go_sem]
     refine X_seq ?_
     refine X_jq (J := fun as1 ob1 => ∃ (x8 : List Int), bitset_With.j2 x5 x8 = some o1 ∧ [(0, V.row ob.length 0 0 (List.length x8)), (6, vint .i64 x5), (10, v1), (11, vint .i64 (List.length a1 : Int)), (12, vint .i64 (i1 : Int))] = as1 ∧ ob ++ [some (O.row 1 0 (List.map (eI .u64) x8))] = ob1) ?_ ?_
     ·rintro as1 ob1 ⟨x8, h, rfl, rfl⟩
      rw [bitset_With.j2] at h
      simp -implicitDefEqProofs only [go_sem, seval, hi1, f7, hq]
      refine X_drawn (lx_ok γ) [[], [], [1], [0, 1, 2], [0, 1, 2, 3], [], [5], [5, 6], [0, 1, 2, 3, 4, 5, 6, 7], [0, 1, 2, 3, 4, 5, 6, 7, 8], [0, 1, 2, 3, 4, 5, 6, 7, 8, 9]] (fun i => match i with | 10 => true | _ => false) (by kernel_rfl) ?_
      obtain ⟨x9, f8, h⟩ := bindE h
      obtain ⟨f9, f10, f11⟩ := ixL_some f8
      try simp only [Int.toNat_natCast, Int.reduceToNat] at f11
      obtain ⟨x10, f12, h⟩ := bindE h
      have f13 : ¬ (Int.tmod x5 64) < 0 := of_decide_eq_true (chkB_some f12).1
      obtain ⟨x11, f14, h⟩ := bindE h
      have f15 : List.set (List.map (eI .u64) x8) (Int.toNat (w64 (Int.tdiv x5 64))) [.lit (.int .u64 (u64 (orW 64 x9 (u64 (shlE 1 (Int.tmod x5 64) 64)))))] = List.map (eI .u64) x11 := by rw [(updL_some f14).2.2]; simp [eB, eI, eS]
      have f16 : List.length x11 = List.length x8 := by rw [(updL_some f14).2.2]; simp
      have f17 : (Int.toNat (w64 (Int.tdiv x5 64))) < List.length x8 := by have := (updL_some f14).1; have := (updL_some f14).2.1; omega
      try simp -implicitDefEqProofs only [go_sem, seval, hi1, f7, hq, f9, f10, f11, f13, f15, f17, cmpr, List.getD_cons_zero, List.getD_cons_succ, List.contains_cons, List.contains_nil, Nat.reduceBEq, Bool.false_or, Bool.or_false, Bool.true_or, Bool.or_true, beq_self_eq_true]
      refine X.to (as' := [(0, V.row ob.length 0 0 (List.length x11)), (10, v1), (11, vint .i64 (List.length a1 : Int)), (12, vint .i64 (i1 : Int))]) (ob' := ob ++ [some (O.row 1 0 (List.map (eI .u64) x11))]) ?_ ?_
      ·exact To.mv [(0, 0)] (BaseR.refl hob) (by simp) (by decide) (by simp only [go_sem]; exact ⟨VM.rowL (j := 0) (t := 0) rfl (by first | rfl | omega | (simp [*]; done) | simp | simp_all), VM.self (by simpa using Bd.of_rdK hv1), vS, vS⟩) ⟨⟨_, rfl, OM.row' (by first | rfl | simp_all)⟩, trivial⟩
      refine X_reg (lx_ok γ) ?_
      obtain rfl := sI h
      simp -implicitDefEqProofs only [go_sem, seval, hi1, f7, hq]
      refine kR_in rfl ?_ ⟨rfl, rfl⟩
      exact To.mv [(0, 0)] (BaseR.refl hob) (by simp) (by decide) (by simp only [go_sem]; exact ⟨VM.rowL (j := 0) (t := 0) rfl (by first | rfl | omega | (simp [*]; done) | simp | simp_all), VM.self (by simpa using Bd.of_rdK hv1), vS, VM.eqv (by rw [hw1]) (by simp)⟩) ⟨⟨_, rfl, OM.row' (by first | rfl | simp_all)⟩, trivial⟩
     ·refine X_sr (lx_ok γ) ?_
      simp -implicitDefEqProofs only [go_sem, seval, hi1, f7, hq]
      refine X_sr (lx_ok γ) ?_
      simp -implicitDefEqProofs only [go_sem, seval, hi1, f7, hq]
      cases f18 : decide (0 < w64 ((w64 ((w64 (Int.tdiv x5 64)) + 1)) - (List.length x2 : Int)))
      ·rw [if_neg (nF f18)] at h
       refine X_cond (lx_ok γ) ?_
       simp -implicitDefEqProofs only [go_sem, seval, hi1, f7, f18, hq]
       refine X_skip ?_
       try simp -implicitDefEqProofs only [go_sem]
       refine kJ_in ?_ ⟨x2, h, rfl, rfl⟩
       exact To.mv [(0, 0)] (BaseR.refl hob) (by simp) (by decide) (by simp only [go_sem]; exact ⟨VM.rowL (j := 0) (t := 0) rfl (by first | rfl | omega | (simp [*]; done) | simp | simp_all), vS, VM.self (by simpa using Bd.of_rdK hv1), vS, vS⟩) ⟨⟨_, rfl, OM.row' (by first | rfl | simp_all)⟩, trivial⟩
      ·rw [if_pos f18] at h
       refine X_cond (lx_ok γ) ?_
       simp -implicitDefEqProofs only [go_sem, seval, hi1, f7, f18, hq]
       refine X_reg (lx_ok γ) ?_
       obtain ⟨x12, f19, h⟩ := bindE h
       obtain ⟨f20, f21, f22, f23, f24⟩ := mkL_some f19
       have f25 : List.replicate (Int.toNat (w64 ((w64 ((w64 (Int.tdiv x5 64)) + 1)) - (List.length x2 : Int)))) [.lit (.int .u64 0)] = List.map (eI .u64) x12 := by rw [f23]; simp [eB, eI, eS]
       have f26 : (w64 ((w64 ((w64 (Int.tdiv x5 64)) + 1)) - (List.length x2 : Int))) * 8 ≤ 140737488355328 := by have := f22; omega
       obtain ⟨x13, f27, h⟩ := bindE h
       have f28 : List.length x13 * 8 ≤ 140737488355328 := by have := (appL_some f27).1; rw [(appL_some f27).2]; simpa using this
       have f29 : List.map (eI .u64) x2 ++ List.map (eI .u64) x12 = List.map (eI .u64) x13 := by rw [(appL_some f27).2]; simp [eB, eI, eS]
       have f30 : List.length x2 + List.length x12 = List.length x13 := by rw [(appL_some f27).2]; simp
       simp -implicitDefEqProofs only [go_sem, seval, hi1, f7, f18, hq, f20, f25, f26, f28, f29, f30]
       refine kJ_in ?_ ⟨x13, h, rfl, rfl⟩
       exact To.mv [(0, 1)] (BaseR.refl hob) (by simp) (by decide) (by simp only [go_sem]; exact ⟨VM.rowL (j := 0) (t := 0) rfl (by first | rfl | omega | (simp [*]; done) | simp | simp_all), vS, VM.self (by simpa using Bd.of_rdK hv1), vS, vS⟩) ⟨⟨_, rfl, OM.row' (by first | rfl | simp_all)⟩, trivial⟩
    ·rw [if_pos f7] at h
     refine X_cond (lx_ok γ) ?_
     simp -implicitDefEqProofs only [go_sem, seval, hi1, f7, hq]
     refine X_exit ?_
     try simp -implicitDefEqProofs only [go_sem, ↓reduceIte, Nat.reduceEqDiff, reduceCtorEq]
     refine X_reg (lx_ok γ) ?_
     obtain rfl := sI h
     simp -implicitDefEqProofs only [go_sem, seval, hi1, f7, hq]
     refine kR_in rfl ?_ ⟨rfl, rfl⟩
     exact To.mv [(0, 0)] (BaseR.refl hob) (by simp) (by decide) (by simp only [go_sem]; exact ⟨VM.rowL (j := 0) (t := 0) rfl (by first | rfl | omega | (simp [*]; done) | simp | simp_all), VM.self (by simpa using Bd.of_rdK hv1), vS, VM.eqv (by rw [hw1]) (by simp)⟩) ⟨⟨_, rfl, OM.row' (by first | rfl | simp_all)⟩, trivial⟩
   ·refine X_reg (lx_ok γ) ?_
    cases f31 : decide (x5 < 0)
    ·rw [if_neg (nF f31)] at h
     simp -implicitDefEqProofs only [go_sem, seval, hi1, f31, hq]
     refine kJ_in ?_ ⟨(decide (4096 ≤ x5)), h, rfl, rfl⟩
     exact To.mv [(0, 0)] (BaseR.refl hob) (by simp) (by decide) (by simp only [go_sem]; exact ⟨VM.rowL (j := 0) (t := 0) rfl (by first | rfl | omega | (simp [*]; done) | simp | simp_all), vS, VM.self (by simpa using Bd.of_rdK hv1), vS, vS, vS⟩) ⟨⟨_, rfl, OM.row' (by first | rfl | simp_all)⟩, trivial⟩
    ·rw [if_pos f31] at h
     simp -implicitDefEqProofs only [go_sem, seval, hi1, f31, hq]
     refine kJ_in ?_ ⟨true, h, rfl, rfl⟩
     exact To.mv [(0, 0)] (BaseR.refl hob) (by simp) (by decide) (by simp only [go_sem]; exact ⟨VM.rowL (j := 0) (t := 0) rfl (by first | rfl | omega | (simp [*]; done) | simp | simp_all), vS, VM.self (by simpa using Bd.of_rdK hv1), vS, vS, vS⟩) ⟨⟨_, rfl, OM.row' (by first | rfl | simp_all)⟩, trivial⟩
  ·rintro i1 x2 hi1 hn1 as1 ob1 ⟨rfl, rfl⟩
   refine X_sr (lx_ok γ) ?_
   simp -implicitDefEqProofs only [go_sem, seval, hi1, hq]
   refine X_seq ?_
   refine X_cond (lx_ok γ) ?_
   simp -implicitDefEqProofs only [go_sem, seval, hi1, hq]
   have h := hk1 _ (.inl hn1)
   refine X_exit ?_
   try simp -implicitDefEqProofs only [go_sem, ↓reduceIte, Nat.reduceEqDiff, reduceCtorEq]
   refine kJ_in ?_ ⟨x2, h, rfl, rfl⟩
   exact To.mv [(0, 0)] (BaseR.refl hob) (by simp) (by decide) (by simp only [go_sem]; exact VM.rowL (j := 0) (t := 0) rfl (by first | rfl | omega | (simp [*]; done) | simp | simp_all)) ⟨⟨_, rfl, OM.row' (by first | rfl | simp_all)⟩, trivial⟩
end Go.Pf
end
section
set_option maxRecDepth 100000
namespace Go.Pf
open Go Go.Ab Go.Pp Go.Proofs Go.Proofs.S08
attribute [local go_sem] Lxτ Lxγ gam0 gam1 Int.toNat_natCast tau3 tau41 tau64 eI eB eS e_Ins e_Block e_Func e_Prog e_kind_state eL_Intu64
set_option maxHeartbeats 1000000 in
theorem bitset_Has_ok (γ : GT) (ob : OT) {a0 : List Int} {v0 : V} {a1 : Int} (hv0 : rdK (getO ob) 1 v0 = some (List.map (eI .u64) a0)) {r : Bool} (h : bitset_Has a0 a1 = some r) :
  Valid (Lx γ) 32 [v0, vint .i64 a1] ob (vbool r) ob := by
 refine valid_X (lx_ok γ) (fn := Tryd.f32) (rs := [.tmp 4]) Tryd.func32 (by kernel_rfl) rfl rfl Tryd.ntmps32 rfl (by simp) fun hb hob => ?_
 have hq := rd4 hv0
 rw [bitset_Has] at h
 refine X_sr (lx_ok γ) ?_
 simp -implicitDefEqProofs only [go_sem, seval, hq]
 refine X_sr (lx_ok γ) ?_
 cases f1 : decide (0 ≤ a1)
 ·rw [if_neg (nF f1)] at h
  simp -implicitDefEqProofs only [go_sem, seval, f1, hq]
  obtain rfl := sI h
  refine X_ret ?_
  simp -implicitDefEqProofs only [go_sem, seval, f1, hq]
  exact Rt.mv1 (BaseR.refl hob) (by simp) (vS)
 ·rw [if_pos f1] at h
  cases f2 : decide (w64 (Int.tdiv a1 64) < (List.length a0 : Int))
  ·rw [if_neg (nF f2)] at h
   simp -implicitDefEqProofs only [go_sem, seval, f1, f2, hq]
   obtain rfl := sI h
   refine X_ret ?_
   simp -implicitDefEqProofs only [go_sem, seval, f1, f2, hq]
   exact Rt.mv1 (BaseR.refl hob) (by simp) (vS)
  ·rw [if_pos f2] at h
   obtain ⟨x1, f3, h⟩ := bindE h
   obtain ⟨f4, f5, f6⟩ := ixL_some f3
   try simp only [Int.toNat_natCast, Int.reduceToNat] at f6
   obtain ⟨x2, f7, h⟩ := bindE h
   have f8 : ¬ (Int.tmod a1 64) < 0 := of_decide_eq_true (chkB_some f7).1
   simp -implicitDefEqProofs only [go_sem, seval, f1, f2, hq, f4, f5, f6, f8]
   obtain rfl := sI h
   refine X_ret ?_
   simp -implicitDefEqProofs only [go_sem, seval, f1, f2, hq, f4, f5, f6, f8]
   exact Rt.mv1 (BaseR.refl hob) (by simp) (vS)
end Go.Pf
end
section
set_option maxRecDepth 100000
namespace Go.Pf
open Go Go.Ab Go.Pp Go.Proofs Go.Proofs.S08
attribute [local go_sem] Lxτ Lxγ gam0 gam1 Int.toNat_natCast tau3 tau41 tau64 eI eB eS e_Ins e_Block e_Func e_Prog e_kind_state eL_Intu64
set_option maxHeartbeats 1000000 in
theorem bitset_merge_ok (γ : GT) (ob : OT) {a0 : List Int} {v0 : V} {a1 : List Int} {v1 : V} {a2 : Int → Int → Option (Int)} {w2 : V} (hv0 : rdK (getO ob) 1 v0 = some (List.map (eI .u64) a0)) (hv1 : rdK (getO ob) 1 v1 = some (List.map (eI .u64) a1)) (hf2 : ∀ (ob1 : OT), ob <+: ob1 → ∀ (y0 : Int) (y1 : Int) (r : Int), a2 y0 y1 = some r → FnV (Lx γ) w2 [vint .u64 y0, vint .u64 y1] ob1 (vint .u64 r) ob1) {r : List Int} (h : bitset_merge a0 a1 a2 = some r) :
  Valid (Lx γ) 69 [v0, v1, w2] ob (V.tr (.sl 1 false (List.map (eI .u64) r))) ob := by
 refine valid_X (lx_ok γ) (fn := Tryd.f69) (rs := [.tmp 6]) Tryd.func69 (by kernel_rfl) rfl rfl Tryd.ntmps69 rfl (by simp) fun hb hob => ?_
 have hq := And.intro (rd4 hv0) (rd4 hv1)
 rw [bitset_merge] at h
 refine X_sr (lx_ok γ) ?_
 simp -implicitDefEqProofs only [go_sem, seval, hq]
 refine X_sr (lx_ok γ) ?_
 obtain ⟨x1, f1, h⟩ := bindE h
 obtain ⟨f2, f3, f4, f5, f6⟩ := mkL_some f1
 have f7 : List.replicate (Int.toNat (if (List.length a1 : Int) > (List.length a0 : Int) then (List.length a1 : Int) else (List.length a0 : Int))) [.lit (.int .u64 0)] = List.map (eI .u64) x1 := by rw [f5]; simp [eB, eI, eS]
 have f8 : List.length x1 = (Int.toNat (if (List.length a1 : Int) > (List.length a0 : Int) then (List.length a1 : Int) else (List.length a0 : Int))) := by rw [f6]; try simp
 have f9 : (if (List.length a1 : Int) > (List.length a0 : Int) then (List.length a1 : Int) else (List.length a0 : Int)) * 8 ≤ 140737488355328 := by have := f4; omega
 simp -implicitDefEqProofs only [go_sem, seval, hq, f2, f3, f4, f7, f8, f9]
 refine X_sr (lx_ok γ) ?_
 obtain ⟨x2, f10, h⟩ := bindE h
 have f11 : cpyL x1 a0 = x2 := Option.some.inj f10
 have f12 : List.length x2 = List.length x1 := by rw [← f11, cpyL_len]
 simp -implicitDefEqProofs only [go_sem, seval, hq, f8, f11]
 refine X.to (as' := [(1, v1), (2, w2), (7, V.row ob.length 0 0 (List.length x2))]) (ob' := ob ++ [some (O.row 1 0 (List.map (eI .u64) x2))]) ?_ ?_
 ·exact To.mv [(0, 0)] (BaseR.refl hob) (by simp) (by decide) (by simp only [go_sem]; exact ⟨VM.self (by simpa using Bd.of_rdK hv1), VM.self (by simpa using hb w2 (by simp)), VM.rowL (j := 0) (t := 0) rfl (by first | rfl | omega | (simp [*]; done) | simp | simp_all)⟩) ⟨⟨_, rfl, OM.row' (by first | rfl | simp_all)⟩, trivial⟩
 refine X_seq ?_
 refine X_sr (lx_ok γ) ?_
 simp -implicitDefEqProofs only [go_sem, seval, hq]
 refine X_jq (J := fun as1 ob1 => ∃ (x3 : List Int), bitset_merge.k1 x3 = some r ∧ [(7, V.row ob.length 0 0 (List.length x3))] = as1 ∧ ob ++ [some (O.row 1 0 (List.map (eI .u64) x3))] = ob1) ?_ ?_
 ·rintro as1 ob1 ⟨x3, h, rfl, rfl⟩
  rw [bitset_merge.k1] at h
  simp -implicitDefEqProofs only [go_sem, seval, hq]
  refine X_sr (lx_ok γ) ?_
  obtain ⟨x5, f13, h⟩ := bindE h
  simp -implicitDefEqProofs only [go_sem, seval, hq]
  refine callV_eq (Valid.frzR (b := ob) (l := [some (O.row 1 0 (List.map (eI .u64) x3))]) (l' := [none]) (args := [V.row ob.length 0 0 (List.length x3)]) (args' := [V.tr (.sl 1 false (List.map (eI .u64) x3))]) 0 rfl rfl ⟨VZ.row (by first | rfl | simp), trivial⟩ (bitset_neat_ok γ _  f13)) rfl rfl ?_
  simp -implicitDefEqProofs only [go_sem, seval, hq]
  obtain rfl := sI h
  refine X_ret ?_
  simp -implicitDefEqProofs only [go_sem, seval, hq]
  exact Rt.mv0 (BaseR.refl hob) (by simp) (vS)
 ·refine X_block ?_
  obtain ⟨lr1, hl1, hk1, hr1⟩ := aft2 h
  refine X_forN hl1 (fun (i1 : Nat) (s : (List Int)) as1 ob1 => [(1, v1), (2, w2), (7, V.row ob.length 0 0 (List.length s)), (20, vint .i64 (List.length x2 : Int)), (21, vint .i64 (i1 : Int))] = as1 ∧ ob ++ [some (O.row 1 0 (List.map (eI .u64) s))] = ob1) ⟨_, _, ?_, rfl, rfl⟩ ?_ ?_
  ·exact To.mv [(0, 0)] (BaseR.refl hob) (by simp) (by decide) (by simp only [go_sem]; exact ⟨VM.self (by simpa using Bd.of_rdK hv1), VM.self (by simpa using hb w2 (by simp)), VM.rowL (j := 0) (t := 0) rfl (by first | rfl | omega | (simp [*]; done) | simp | simp_all), vS, VM.eqv (by simp) (by simp)⟩) ⟨⟨_, rfl, OM.row' (by first | rfl | simp_all)⟩, trivial⟩
  ·rintro i1 x3 o1 hi1 hw1 h ho1 as1 ob1 ⟨rfl, rfl⟩
   rw [bitset_merge.b1] at h
   refine X_sr (lx_ok γ) ?_
   simp -implicitDefEqProofs only [go_sem, seval, hi1, hq]
   refine X_seq ?_
   refine X_cond (lx_ok γ) ?_
   simp -implicitDefEqProofs only [go_sem, seval, hi1, hq]
   refine X_skip ?_
   try simp -implicitDefEqProofs only [go_sem]
   refine X_seq ?_
   refine X_block ?_
   refine X_sr (lx_ok γ) ?_
   simp -implicitDefEqProofs only [go_sem, seval, hi1, hq]
   refine X_sr (lx_ok γ) ?_
   simp -implicitDefEqProofs only [go_sem, seval, hi1, hq]
   refine X_seq ?_
   refine X_jq (J := fun as1 ob1 => ∃ (x7 : Int), bitset_merge.j1 a2 x3 x7 i1 = some o1 ∧ [(1, v1), (2, w2), (7, V.row ob.length 0 0 (List.length x3)), (8, vint .i64 (i1 : Int)), (9, vint .u64 x7), (20, vint .i64 (List.length x2 : Int)), (21, vint .i64 (i1 : Int))] = as1 ∧ ob ++ [some (O.row 1 0 (List.map (eI .u64) x3))] = ob1) ?_ ?_
   ·rintro as1 ob1 ⟨x7, h, rfl, rfl⟩
    rw [bitset_merge.j1] at h
    simp -implicitDefEqProofs only [go_sem, seval, hi1, hq]
    refine X_reg (lx_ok γ) ?_
    obtain ⟨x8, f14, h⟩ := bindE h
    obtain ⟨f15, f16⟩ := ixL_nat f14
    have f17 : (0 : Int) ≤ (i1 : Int) := Int.natCast_nonneg _
    obtain ⟨x9, f18, h⟩ := bindE h
    simp -implicitDefEqProofs only [go_sem, seval, hi1, hq, f15, f16, f17]
    refine callV_fn (hf2 _ (List.prefix_append _ _) _ _ _ f18) rfl rfl ?_
    obtain ⟨x10, f19, h⟩ := bindE h
    have f20 : List.set (List.map (eI .u64) x3) i1 [.lit (.int .u64 x9)] = List.map (eI .u64) x10 := by rw [(updL_some f19).2.2]; simp [eB, eI, eS]
    have f21 : List.length x10 = List.length x3 := by rw [(updL_some f19).2.2]; simp
    have f22 : i1 < List.length x3 := by have := (updL_some f19).1; have := (updL_some f19).2.1; omega
    simp -implicitDefEqProofs only [go_sem, seval, hi1, hq, f15, f16, f17, f20, f22]
    refine X.to (as' := [(1, v1), (2, w2), (7, V.row ob.length 0 0 (List.length x10)), (20, vint .i64 (List.length x2 : Int)), (21, vint .i64 (i1 : Int))]) (ob' := ob ++ [some (O.row 1 0 (List.map (eI .u64) x10))]) ?_ ?_
    ·exact To.mv [(0, 0)] (BaseR.refl hob) (by simp) (by decide) (by simp only [go_sem]; exact ⟨VM.self (by simpa using Bd.of_rdK hv1), VM.self (by simpa using hb w2 (by simp)), VM.rowL (j := 0) (t := 0) rfl (by first | rfl | omega | (simp [*]; done) | simp | simp_all), vS, vS⟩) ⟨⟨_, rfl, OM.row' (by first | rfl | simp_all)⟩, trivial⟩
    refine X_reg (lx_ok γ) ?_
    obtain rfl := sI h
    simp -implicitDefEqProofs only [go_sem, seval, hi1, hq]
    refine kR_in rfl ?_ ⟨rfl, rfl⟩
    exact To.mv [(0, 0)] (BaseR.refl hob) (by simp) (by decide) (by simp only [go_sem]; exact ⟨VM.self (by simpa using Bd.of_rdK hv1), VM.self (by simpa using hb w2 (by simp)), VM.rowL (j := 0) (t := 0) rfl (by first | rfl | omega | (simp [*]; done) | simp | simp_all), vS, VM.eqv (by rw [hw1]) (by simp)⟩) ⟨⟨_, rfl, OM.row' (by first | rfl | simp_all)⟩, trivial⟩
   ·refine X_sr (lx_ok γ) ?_
    simp -implicitDefEqProofs only [go_sem, seval, hi1, hq]
    cases f23 : decide ((i1 : Int) < (List.length a1 : Int))
    ·rw [if_neg (nF f23)] at h
     refine X_cond (lx_ok γ) ?_
     simp -implicitDefEqProofs only [go_sem, seval, hi1, f23, hq]
     refine X_skip ?_
     try simp -implicitDefEqProofs only [go_sem]
     refine kJ_in ?_ ⟨0, h, rfl, rfl⟩
     exact To.mv [(0, 0)] (BaseR.refl hob) (by simp) (by decide) (by simp only [go_sem]; exact ⟨VM.self (by simpa using Bd.of_rdK hv1), VM.self (by simpa using hb w2 (by simp)), VM.rowL (j := 0) (t := 0) rfl (by first | rfl | omega | (simp [*]; done) | simp | simp_all), vS, vS, vS, vS⟩) ⟨⟨_, rfl, OM.row' (by first | rfl | simp_all)⟩, trivial⟩
    ·rw [if_pos f23] at h
     refine X_cond (lx_ok γ) ?_
     simp -implicitDefEqProofs only [go_sem, seval, hi1, f23, hq]
     refine X_reg (lx_ok γ) ?_
     obtain ⟨x11, f24, h⟩ := bindE h
     obtain ⟨f25, f26⟩ := ixL_nat f24
     have f27 : (0 : Int) ≤ (i1 : Int) := Int.natCast_nonneg _
     simp -implicitDefEqProofs only [go_sem, seval, hi1, f23, hq, f25, f26, f27]
     refine kJ_in ?_ ⟨x11, h, rfl, rfl⟩
     exact To.mv [(0, 0)] (BaseR.refl hob) (by simp) (by decide) (by simp only [go_sem]; exact ⟨VM.self (by simpa using Bd.of_rdK hv1), VM.self (by simpa using hb w2 (by simp)), VM.rowL (j := 0) (t := 0) rfl (by first | rfl | omega | (simp [*]; done) | simp | simp_all), vS, vS, vS, vS⟩) ⟨⟨_, rfl, OM.row' (by first | rfl | simp_all)⟩, trivial⟩
  ·rintro i1 x3 hi1 hn1 as1 ob1 ⟨rfl, rfl⟩
   refine X_sr (lx_ok γ) ?_
   simp -implicitDefEqProofs only [go_sem, seval, hi1, hq]
   refine X_seq ?_
   refine X_cond (lx_ok γ) ?_
   simp -implicitDefEqProofs only [go_sem, seval, hi1, hq]
   have h := hk1 _ (.inl hn1)
   refine X_exit ?_
   try simp -implicitDefEqProofs only [go_sem, ↓reduceIte, Nat.reduceEqDiff, reduceCtorEq]
   refine kJ_in ?_ ⟨x3, h, rfl, rfl⟩
   exact To.mv [(0, 0)] (BaseR.refl hob) (by simp) (by decide) (by simp only [go_sem]; exact VM.rowL (j := 0) (t := 0) rfl (by first | rfl | omega | (simp [*]; done) | simp | simp_all)) ⟨⟨_, rfl, OM.row' (by first | rfl | simp_all)⟩, trivial⟩
end Go.Pf
end
section
set_option maxRecDepth 100000
namespace Go.Pf
open Go Go.Ab Go.Pp Go.Proofs Go.Proofs.S08
attribute [local go_sem] Lxτ Lxγ gam0 gam1 Int.toNat_natCast tau64 eI eB eS e_Ins e_Block e_Func e_Prog e_kind_state eL_Intu64
set_option maxHeartbeats 1000000 in
theorem bitset_Join_1_ok (γ : GT) (ob : OT) {a0 : Int} {a1 : Int} {r : Int} (h : bitset_Join_1 a0 a1 = some r) :
  Valid (Lx γ) 83 [vint .u64 a0, vint .u64 a1] ob (vint .u64 r) ob := by
 refine valid_X (lx_ok γ) (fn := Tryd.f83) (rs := [.tmp 4]) Tryd.func83 (by kernel_rfl) rfl rfl Tryd.ntmps83 rfl (by simp) fun hb hob => ?_
 rw [bitset_Join_1] at h
 refine X_sr (lx_ok γ) ?_
 simp -implicitDefEqProofs only [go_sem, seval]
 refine X_sr (lx_ok γ) ?_
 simp -implicitDefEqProofs only [go_sem, seval]
 obtain rfl := sI h
 refine X_ret ?_
 simp -implicitDefEqProofs only [go_sem, seval]
 exact Rt.mv1 (BaseR.refl hob) (by simp) (vS)
end Go.Pf
end
section
set_option maxRecDepth 100000
namespace Go.Pf
open Go Go.Ab Go.Pp Go.Proofs Go.Proofs.S08
attribute [local go_sem] Lxτ Lxγ gam0 gam1 Int.toNat_natCast tau3 tau41 tau64 tau85 tau95 eI eB eS e_Ins e_Block e_Func e_Prog e_kind_state eL_Intu64
set_option maxHeartbeats 1000000 in
theorem bitset_Join_ok (γ : GT) (ob : OT) {a0 : List (List Int)} {v0 : V} (hv0 : rdK (getO ob) 1 v0 = some (List.map eL_Intu64 a0)) {r : List Int} (h : bitset_Join a0 = some r) :
  Valid (Lx γ) 65 [v0] ob (V.tr (.sl 1 false (List.map (eI .u64) r))) ob := by
 refine valid_X (lx_ok γ) (fn := Tryd.f65) (rs := [.tmp 2]) Tryd.func65 (by kernel_rfl) rfl rfl Tryd.ntmps65 rfl (by simp) fun hb hob => ?_
 have hq := rd4 hv0
 rw [bitset_Join] at h
 refine X_sr (lx_ok γ) ?_
 simp -implicitDefEqProofs only [go_sem, seval, hq]
 refine X_sr (lx_ok γ) ?_
 simp -implicitDefEqProofs only [go_sem, seval, hq]
 refine X_seq ?_
 refine X_sr (lx_ok γ) ?_
 simp -implicitDefEqProofs only [go_sem, seval, hq]
 refine X_jq (J := fun as1 ob1 => ∃ (x1 : List Int), bitset_Join.k1 x1 = some r ∧ [(3, V.tr (.sl 1 false (List.map (eI .u64) x1)))] = as1 ∧ ob = ob1) ?_ ?_
 ·rintro as1 ob1 ⟨x1, h, rfl, rfl⟩
  rw [bitset_Join.k1] at h
  simp -implicitDefEqProofs only [go_sem, seval, hq]
  refine X_sr (lx_ok γ) ?_
  simp -implicitDefEqProofs only [go_sem, seval, hq]
  obtain rfl := sI h
  refine X_ret ?_
  simp -implicitDefEqProofs only [go_sem, seval, hq]
  exact Rt.mv1 (BaseR.refl hob) (by simp) (vS)
 ·refine X_block ?_
  obtain ⟨lr1, hl1, hk1, hr1⟩ := aft2 h
  refine X_forN hl1 (fun (i1 : Nat) (s : (List Int)) as1 ob1 => [(3, V.tr (.sl 1 false (List.map (eI .u64) s))), (6, v0), (7, vint .i64 (List.length a0 : Int)), (8, vint .i64 (i1 : Int))] = as1 ∧ ob = ob1) ⟨_, _, ?_, rfl, rfl⟩ ?_ ?_
  ·exact To.mv1 (BaseR.refl hob) (by simp) (by simp only [go_sem]; exact ⟨VM.nil _ _ _, VM.self (by simpa using Bd.of_rdK hv0), vS, VM.eqv (by simp) (by simp)⟩)
  ·rintro i1 x1 o1 hi1 hw1 h ho1 as1 ob1 ⟨rfl, rfl⟩
   rw [bitset_Join.b1] at h
   refine X_sr (lx_ok γ) ?_
   simp -implicitDefEqProofs only [go_sem, seval, hi1, hq]
   refine X_seq ?_
   refine X_cond (lx_ok γ) ?_
   simp -implicitDefEqProofs only [go_sem, seval, hi1, hq]
   refine X_skip ?_
   try simp -implicitDefEqProofs only [go_sem]
   refine X_seq ?_
   refine X_block ?_
   refine X_sr (lx_ok γ) ?_
   obtain ⟨x3, f1, h⟩ := bindE h
   obtain ⟨f2, f3⟩ := ixL_nat f1
   have f4 : (0 : Int) ≤ (i1 : Int) := Int.natCast_nonneg _
   simp -implicitDefEqProofs only [go_sem, seval, hi1, hq, f2, f3, f4]
   refine X_reg (lx_ok γ) ?_
   obtain ⟨x4, f5, h⟩ := bindE h
   simp -implicitDefEqProofs only [go_sem, seval, hi1, hq]
   refine callV_eq (bitset_merge_ok γ _ (by simp -implicitDefEqProofs only [go_sem, seval, hi1, hq]; try rfl) (by simp -implicitDefEqProofs only [go_sem, seval, hi1, hq]; try rfl) (fun ob1 hp y0 y1 r hx => by obtain ⟨l, rfl⟩ := hp; exact bitset_Join_1_ok γ _  hx) f5) rfl rfl ?_
   simp -implicitDefEqProofs only [go_sem, seval, hi1, hq]
   refine X_reg (lx_ok γ) ?_
   obtain rfl := sI h
   simp -implicitDefEqProofs only [go_sem, seval, hi1, hq]
   refine kR_in rfl ?_ ⟨rfl, rfl⟩
   exact To.mv1 (BaseR.refl hob) (by simp) (by simp only [go_sem]; exact ⟨vS, VM.self (by simpa using Bd.of_rdK hv0), vS, VM.eqv (by rw [hw1]) (by simp)⟩)
  ·rintro i1 x1 hi1 hn1 as1 ob1 ⟨rfl, rfl⟩
   refine X_sr (lx_ok γ) ?_
   simp -implicitDefEqProofs only [go_sem, seval, hi1, hq]
   refine X_seq ?_
   refine X_cond (lx_ok γ) ?_
   simp -implicitDefEqProofs only [go_sem, seval, hi1, hq]
   have h := hk1 _ (.inl hn1)
   refine X_exit ?_
   try simp -implicitDefEqProofs only [go_sem, ↓reduceIte, Nat.reduceEqDiff, reduceCtorEq]
   refine kJ_in ?_ ⟨x1, h, rfl, rfl⟩
   exact To.mv1 (BaseR.refl hob) (by simp) (by simp only [go_sem]; exact vS)
end Go.Pf
end
section
set_option maxRecDepth 100000
namespace Go.Pf
open Go Go.Ab Go.Pp Go.Proofs Go.Proofs.S08
attribute [local go_sem] Lxτ Lxγ gam0 gam1 Int.toNat_natCast tau3 tau25 tau41 tau64 eI eB eS e_Ins e_Block e_Func e_Prog e_kind_state eL_Intu64
set_option maxHeartbeats 1000000 in
theorem bitset_Without_ok (γ : GT) (ob : OT) {a0 : List Int} {v0 : V} {a1 : List Int} {v1 : V} (hv0 : rdK (getO ob) 1 v0 = some (List.map (eI .u64) a0)) (hv1 : rdK (getO ob) 1 v1 = some (List.map (eI .i64) a1)) {r : List Int} (h : bitset_Without a0 a1 = some r) :
  Valid (Lx γ) 66 [v0, v1] ob (V.tr (.sl 1 false (List.map (eI .u64) r))) ob := by
 refine valid_X (lx_ok γ) (fn := Tryd.f66) (rs := [.tmp 4]) Tryd.func66 (by kernel_rfl) rfl rfl Tryd.ntmps66 rfl (by simp) fun hb hob => ?_
 have hq := And.intro (rd4 hv0) (rd4 hv1)
 rw [bitset_Without] at h
 refine X_sr (lx_ok γ) ?_
 simp -implicitDefEqProofs only [go_sem, seval, hq]
 refine X_sr (lx_ok γ) ?_
 obtain ⟨x1, f1, h⟩ := bindE h
 simp -implicitDefEqProofs only [go_sem, seval, hq]
 refine callV_eq (slices_Clone_uint64_ok γ _ (by first | exact rdK_app hv0 | exact hv0) f1) rfl rfl ?_
 simp -implicitDefEqProofs only [go_sem, seval, hq]
 refine X_seq ?_
 refine X_sr (lx_ok γ) ?_
 simp -implicitDefEqProofs only [go_sem, seval, hq]
 refine X_jq (J := fun as1 ob1 => ∃ (x2 : List Int), bitset_Without.k1 x2 = some r ∧ [(0, V.row ob.length 0 0 (List.length x2))] = as1 ∧ ob ++ [some (O.row 1 0 (List.map (eI .u64) x2))] = ob1) ?_ ?_
 ·rintro as1 ob1 ⟨x2, h, rfl, rfl⟩
  rw [bitset_Without.k1] at h
  simp -implicitDefEqProofs only [go_sem, seval, hq]
  refine X_sr (lx_ok γ) ?_
  obtain ⟨x4, f2, h⟩ := bindE h
  simp -implicitDefEqProofs only [go_sem, seval, hq]
  refine callV_eq (Valid.frzR (b := ob) (l := [some (O.row 1 0 (List.map (eI .u64) x2))]) (l' := [none]) (args := [V.row ob.length 0 0 (List.length x2)]) (args' := [V.tr (.sl 1 false (List.map (eI .u64) x2))]) 0 rfl rfl ⟨VZ.row (by first | rfl | simp), trivial⟩ (bitset_neat_ok γ _  f2)) rfl rfl ?_
  simp -implicitDefEqProofs only [go_sem, seval, hq]
  obtain rfl := sI h
  refine X_ret ?_
  simp -implicitDefEqProofs only [go_sem, seval, hq]
  exact Rt.mv0 (BaseR.refl hob) (by simp) (vS)
 ·refine X_block ?_
  obtain ⟨lr1, hl1, hk1, hr1⟩ := aft2 h
  refine X_forN hl1 (fun (i1 : Nat) (s : (List Int)) as1 ob1 => [(0, V.row ob.length 0 0 (List.length s)), (9, v1), (10, vint .i64 (List.length a1 : Int)), (11, vint .i64 (i1 : Int))] = as1 ∧ ob ++ [some (O.row 1 0 (List.map (eI .u64) s))] = ob1) ⟨_, _, ?_, rfl, rfl⟩ ?_ ?_
  ·exact To.mv [(0, 0)] (BaseR.refl hob) (by simp) (by decide) (by simp only [go_sem]; exact ⟨VM.rowL (j := 0) (t := 0) rfl (by first | rfl | omega | (simp [*]; done) | simp | simp_all), VM.self (by simpa using Bd.of_rdK hv1), vS, VM.eqv (by simp) (by simp)⟩) ⟨⟨_, rfl, OM.row' (by first | rfl | simp_all)⟩, trivial⟩
  ·rintro i1 x2 o1 hi1 hw1 h ho1 as1 ob1 ⟨rfl, rfl⟩
   rw [bitset_Without.b1] at h
   refine X_sr (lx_ok γ) ?_
   simp -implicitDefEqProofs only [go_sem, seval, hi1, hq]
   refine X_seq ?_
   refine X_cond (lx_ok γ) ?_
   simp -implicitDefEqProofs only [go_sem, seval, hi1, hq]
   refine X_skip ?_
   try simp -implicitDefEqProofs only [go_sem]
   refine X_seq ?_
   refine X_block ?_
   refine X_sr (lx_ok γ) ?_
   obtain ⟨x5, f3, h⟩ := bindE h
   obtain ⟨f4, f5⟩ := ixL_nat f3
   have f6 : (0 : Int) ≤ (i1 : Int) := Int.natCast_nonneg _
   simp -implicitDefEqProofs only [go_sem, seval, hi1, hq, f4, f5, f6]
   refine X_sr (lx_ok γ) ?_
   obtain ⟨x6, f7, h⟩ := bindE h
   simp -implicitDefEqProofs only [go_sem, seval, hi1, hq]
   refine callV_eq (bitset_Has_ok γ _ (by simp -implicitDefEqProofs only [go_sem, seval, hi1, hq]; try rfl) f7) rfl rfl ?_
   simp -implicitDefEqProofs only [go_sem, seval, hi1, hq]
   cases f8 : x6
   ·rw [if_neg (nF f8)] at h
    refine X_cond (lx_ok γ) ?_
    simp -implicitDefEqProofs only [go_sem, seval, hi1, f8, hq]
    refine X_skip ?_
    try simp -implicitDefEqProofs only [go_sem]
    refine X_reg (lx_ok γ) ?_
    obtain rfl := sI h
    simp -implicitDefEqProofs only [go_sem, seval, hi1, f8, hq]
    refine kR_in rfl ?_ ⟨rfl, rfl⟩
    exact To.mv [(0, 0)] (BaseR.refl hob) (by simp) (by decide) (by simp only [go_sem]; exact ⟨VM.rowL (j := 0) (t := 0) rfl (by first | rfl | omega | (simp [*]; done) | simp | simp_all), VM.self (by simpa using Bd.of_rdK hv1), vS, VM.eqv (by rw [hw1]) (by simp)⟩) ⟨⟨_, rfl, OM.row' (by first | rfl | simp_all)⟩, trivial⟩
   ·rw [if_pos f8] at h
    refine X_cond (lx_ok γ) ?_
    simp -implicitDefEqProofs only [go_sem, seval, hi1, f8, hq]
    refine X_drawn (lx_ok γ) [[], [], [1], [0, 1, 2], [0, 1, 2, 3], [], [5], [5, 6], [0, 1, 2, 3, 4, 5, 6, 7], [0, 1, 2, 3, 4, 5, 6, 7, 8], [0, 1, 2, 3, 4, 5, 6, 7, 8, 9]] (fun i => match i with | 10 => true | _ => false) (by kernel_rfl) ?_
    obtain ⟨x7, f9, h⟩ := bindE h
    obtain ⟨f10, f11, f12⟩ := ixL_some f9
    try simp only [Int.toNat_natCast, Int.reduceToNat] at f12
    obtain ⟨x8, f13, h⟩ := bindE h
    have f14 : ¬ (Int.tmod x5 64) < 0 := of_decide_eq_true (chkB_some f13).1
    obtain ⟨x9, f15, h⟩ := bindE h
    have f16 : List.set (List.map (eI .u64) x2) (Int.toNat (w64 (Int.tdiv x5 64))) [.lit (.int .u64 (u64 (clrW 64 x7 (u64 (shlE 1 (Int.tmod x5 64) 64)))))] = List.map (eI .u64) x9 := by rw [(updL_some f15).2.2]; simp [eB, eI, eS]
    have f17 : List.length x9 = List.length x2 := by rw [(updL_some f15).2.2]; simp
    have f18 : (Int.toNat (w64 (Int.tdiv x5 64))) < List.length x2 := by have := (updL_some f15).1; have := (updL_some f15).2.1; omega
    try simp -implicitDefEqProofs only [go_sem, seval, hi1, f8, hq, f10, f11, f12, f14, f16, f18, cmpr, List.getD_cons_zero, List.getD_cons_succ, List.contains_cons, List.contains_nil, Nat.reduceBEq, Bool.false_or, Bool.or_false, Bool.true_or, Bool.or_true, beq_self_eq_true]
    refine X.to (as' := [(0, V.row ob.length 0 0 (List.length x9)), (9, v1), (10, vint .i64 (List.length a1 : Int)), (11, vint .i64 (i1 : Int))]) (ob' := ob ++ [some (O.row 1 0 (List.map (eI .u64) x9))]) ?_ ?_
    ·exact To.mv [(0, 0)] (BaseR.refl hob) (by simp) (by decide) (by simp only [go_sem]; exact ⟨VM.rowL (j := 0) (t := 0) rfl (by first | rfl | omega | (simp [*]; done) | simp | simp_all), VM.self (by simpa using Bd.of_rdK hv1), vS, vS⟩) ⟨⟨_, rfl, OM.row' (by first | rfl | simp_all)⟩, trivial⟩
    refine X_reg (lx_ok γ) ?_
    obtain rfl := sI h
    simp -implicitDefEqProofs only [go_sem, seval, hi1, f8, hq]
    refine kR_in rfl ?_ ⟨rfl, rfl⟩
    exact To.mv [(0, 0)] (BaseR.refl hob) (by simp) (by decide) (by simp only [go_sem]; exact ⟨VM.rowL (j := 0) (t := 0) rfl (by first | rfl | omega | (simp [*]; done) | simp | simp_all), VM.self (by simpa using Bd.of_rdK hv1), vS, VM.eqv (by rw [hw1]) (by simp)⟩) ⟨⟨_, rfl, OM.row' (by first | rfl | simp_all)⟩, trivial⟩
  ·rintro i1 x2 hi1 hn1 as1 ob1 ⟨rfl, rfl⟩
   refine X_sr (lx_ok γ) ?_
   simp -implicitDefEqProofs only [go_sem, seval, hi1, hq]
   refine X_seq ?_
   refine X_cond (lx_ok γ) ?_
   simp -implicitDefEqProofs only [go_sem, seval, hi1, hq]
   have h := hk1 _ (.inl hn1)
   refine X_exit ?_
   try simp -implicitDefEqProofs only [go_sem, ↓reduceIte, Nat.reduceEqDiff, reduceCtorEq]
   refine kJ_in ?_ ⟨x2, h, rfl, rfl⟩
   exact To.mv [(0, 0)] (BaseR.refl hob) (by simp) (by decide) (by simp only [go_sem]; exact VM.rowL (j := 0) (t := 0) rfl (by first | rfl | omega | (simp [*]; done) | simp | simp_all)) ⟨⟨_, rfl, OM.row' (by first | rfl | simp_all)⟩, trivial⟩
end Go.Pf
end
section
set_option maxRecDepth 100000
namespace Go.Pf
open Go Go.Ab Go.Pp Go.Proofs Go.Proofs.S08
attribute [local go_sem] Lxτ Lxγ gam0 gam1 Int.toNat_natCast List.append_eq List.cons_append List.nil_append tau3 tau4 tau25 tau27 tau33 tau35 tau36 tau38 tau41 tau60 tau64 tau95 eI eB eS e_Ins e_Block e_Func e_Prog e_kind_state eL_Intu64
set_option maxHeartbeats 1000000 in
theorem kind_state_behind_ok (γ : GT) (ob : OT) {a0 : kind_state} {a1 : Func} {v1_0 : V} {v1_1 : V} {v1_4 : V} {a2 : Ins} {v2_6 : V} (hv1_0 : rdK (getO ob) 1 v1_0 = some (List.map (eI .i64) a1.Kinds)) (hv1_1 : rdK (getO ob) 1 v1_1 = some (List.map (eI .i64) a1.Base)) (hv1_4 : rdK (getO ob) 1 v1_4 = some (List.map e_Block a1.Blocks)) (hv2_6 : rdK (getO ob) 1 v2_6 = some (List.map (eI .i64) a2.Args)) {r : kind_state} (h : kind_state_behind a0 a1 a2 = some r) :
  Valid (Lx γ) 44 [V.agg [V.tr (.sl 1 false (List.map (eI .u64) a0.set)), V.tr (.sl 1 false (List.map (eI .u64) a0.fresh))], V.agg [v1_0, v1_1, vint .i64 a1.Params, vint .i64 a1.Result, v1_4], V.agg [vint .i64 a2.Op, vint .i64 a2.D, vint .i64 a2.A, vint .i64 a2.B, vint .i64 a2.N, vint .i64 a2.M, v2_6]] ob (V.agg [V.tr (.sl 1 false (List.map (eI .u64) r.set)), V.tr (.sl 1 false (List.map (eI .u64) r.fresh))]) ob := by
 refine valid_X (lx_ok γ) (fn := Tryd.f44) (rs := [.cell 6 60]) Tryd.func44 (by kernel_rfl) rfl rfl Tryd.ntmps44 rfl (by simp) fun hb hob => ?_
 have hq := And.intro (rd4 hv1_0) (And.intro (rd4 hv1_1) (And.intro (rd4 hv1_4) (rd4 hv2_6)))
 rw [kind_state_behind] at h
 refine X_sr (lx_ok γ) ?_
 simp -implicitDefEqProofs only [go_sem, seval, hq]
 refine X_sr (lx_ok γ) ?_
 obtain ⟨x1, f1, h⟩ := bindE h
 simp -implicitDefEqProofs only [go_sem, seval, hq]
 refine callV_eq (shape_Sets_ok γ _ (by first | exact rdK_app hv2_6 | exact hv2_6) f1) rfl rfl ?_
 simp -implicitDefEqProofs only [go_sem, seval, hq]
 refine X_seq ?_
 refine X_sr (lx_ok γ) ?_
 simp -implicitDefEqProofs only [go_sem, seval, hq]
 cases f2 : x1.2
 ·rw [if_neg (nF f2)] at h
  refine X_cond (lx_ok γ) ?_
  simp -implicitDefEqProofs only [go_sem, seval, f2, hq]
  refine X_seq ?_
  refine X_drawn (lx_ok γ) [[], [0], [0, 1], [0, 1, 2], [], [4], [4, 5], [0, 1, 2, 3, 4, 5, 6], [0, 1, 2, 3, 4, 5, 6, 7], [0, 1, 2, 3, 4, 5, 6, 7, 8]] (fun i => match i with | 9 => true | _ => false) (by kernel_rfl) ?_
  obtain ⟨x2, f3, h⟩ := bindE h
  try simp -implicitDefEqProofs only [go_sem, seval, f2, hq, cmpr, List.getD_cons_zero, List.getD_cons_succ, List.contains_cons, List.contains_nil, Nat.reduceBEq, Bool.false_or, Bool.or_false, Bool.true_or, Bool.or_true, beq_self_eq_true]
  refine callV_eq (bitset_Join_ok γ _ (by simp -implicitDefEqProofs only [go_sem, seval, f2, hq]; try rfl) f3) rfl rfl ?_
  obtain ⟨x3, f4, h⟩ := bindE h
  try simp -implicitDefEqProofs only [go_sem, seval, f2, hq, cmpr, List.getD_cons_zero, List.getD_cons_succ, List.contains_cons, List.contains_nil, Nat.reduceBEq, Bool.false_or, Bool.or_false, Bool.true_or, Bool.or_true, beq_self_eq_true]
  refine callV_eq (bitset_Join_ok γ _ (by simp -implicitDefEqProofs only [go_sem, seval, f2, hq]; try rfl) f4) rfl rfl ?_
  try simp -implicitDefEqProofs only [go_sem, seval, f2, hq, cmpr, List.getD_cons_zero, List.getD_cons_succ, List.contains_cons, List.contains_nil, Nat.reduceBEq, Bool.false_or, Bool.or_false, Bool.true_or, Bool.or_true, beq_self_eq_true]
  obtain rfl := sI h
  refine X_ret ?_
  simp -implicitDefEqProofs only [go_sem, seval, f2, hq]
  exact Rt.mv0 (BaseR.refl hob) (by simp) (VM.agg ⟨vS, vS, trivial⟩)
 ·rw [if_pos f2] at h
  refine X_cond (lx_ok γ) ?_
  simp -implicitDefEqProofs only [go_sem, seval, f2, hq]
  refine X_skip ?_
  try simp -implicitDefEqProofs only [go_sem]
  refine X_sr (lx_ok γ) ?_
  simp -implicitDefEqProofs only [go_sem, seval, f2, hq]
  refine X_seq ?_
  refine X_sr (lx_ok γ) ?_
  simp -implicitDefEqProofs only [go_sem, seval, f2, hq]
  refine X_jq (J := fun as1 ob1 => ∃ (x4 : List Int), kind_state_behind.k1 a0 a1 a2 x1 x4 = some r ∧ [(3, V.ref ob.length 0), (4, V.ref (ob.length + 1) 0), (5, V.ref (ob.length + 2) 0), (6, V.ref (ob.length + 3) 0), (7, vint .i64 x1.1), (9, V.row (ob.length + 4) 0 0 (List.length x4))] = as1 ∧ ob ++ [some (O.box [V.tr (.sl 1 false (List.map (eI .u64) a0.set)), V.tr (.sl 1 false (List.map (eI .u64) a0.fresh))]), some (O.box [v1_0, v1_1, vint .i64 a1.Params, vint .i64 a1.Result, v1_4]), some (O.box [vint .i64 a2.Op, vint .i64 a2.D, vint .i64 a2.A, vint .i64 a2.B, vint .i64 a2.N, vint .i64 a2.M, v2_6]), some (O.box [V.tr (.sl 0 true []), V.tr (.sl 0 true [])]), some (O.row 1 0 (List.map (eI .i64) x4))] = ob1) ?_ ?_
  ·rintro as1 ob1 ⟨x4, h, rfl, rfl⟩
   rw [kind_state_behind.k1] at h
   simp -implicitDefEqProofs only [go_sem, seval, f2, hq]
   refine X_sr (lx_ok γ) ?_
   obtain ⟨x6, f5, h⟩ := bindE h
   simp -implicitDefEqProofs only [go_sem, seval, f2, hq]
   refine callV_eq (bitset_Without_ok γ _ (by simp -implicitDefEqProofs only [go_sem, seval, f2, hq]; try rfl) (by simp -implicitDefEqProofs only [go_sem, seval, f2, hq]; try rfl) f5) rfl rfl ?_
   simp -implicitDefEqProofs only [go_sem, seval, f2, hq]
   refine X_seq ?_
   refine X_jq (J := fun as1 ob1 => ∃ (x8 : List Int), kind_state_behind.j1 a0 x1 x8 = some r ∧ [(3, V.ref ob.length 0), (6, V.ref (ob.length + 1) 0), (7, vint .i64 x1.1), (12, V.tr (.sl 1 false (List.map (eI .u64) x8)))] = as1 ∧ ob ++ [some (O.box [V.tr (.sl 1 false (List.map (eI .u64) a0.set)), V.tr (.sl 1 false (List.map (eI .u64) a0.fresh))]), some (O.box [V.tr (.sl 0 true []), V.tr (.sl 0 true [])])] = ob1) ?_ ?_
   ·rintro as1 ob1 ⟨x8, h, rfl, rfl⟩
    rw [kind_state_behind.j1] at h
    simp -implicitDefEqProofs only [go_sem, seval, f2, hq]
    refine X_sr (lx_ok γ) ?_
    obtain ⟨x9, f6, h⟩ := bindE h
    simp -implicitDefEqProofs only [go_sem, seval, f2, hq]
    refine callV_eq (bitset_With_ok γ _ (by simp -implicitDefEqProofs only [go_sem, seval, f2, hq]; try rfl) (by simp -implicitDefEqProofs only [go_sem, seval, f2, hq]; try rfl) f6) rfl rfl ?_
    simp -implicitDefEqProofs only [go_sem, seval, f2, hq]
    obtain rfl := sI h
    refine X_ret ?_
    simp -implicitDefEqProofs only [go_sem, seval, f2, hq]
    exact Rt.mv0 (BaseR.refl hob) (by simp) (VM.agg ⟨vS, vS, trivial⟩)
   ·refine X_seq ?_
    refine X_jq (J := fun as1 ob1 => ∃ (x12 : Bool), kind_state_behind.j2 a0 x1 x6 x12 = some r ∧ [(3, V.ref ob.length 0), (6, V.ref (ob.length + 1) 0), (7, vint .i64 x1.1), (12, V.tr (.sl 1 false (List.map (eI .u64) x6))), (76, vbool x12)] = as1 ∧ ob ++ [some (O.box [V.tr (.sl 1 false (List.map (eI .u64) a0.set)), V.tr (.sl 1 false (List.map (eI .u64) a0.fresh))]), some (O.box [V.tr (.sl 0 true []), V.tr (.sl 0 true [])])] = ob1) ?_ ?_
    ·rintro as1 ob1 ⟨x12, h, rfl, rfl⟩
     rw [kind_state_behind.j2] at h
     simp -implicitDefEqProofs only [go_sem, seval, f2, hq]
     cases f7 : x12
     ·rw [if_neg (nF f7)] at h
      refine X_cond (lx_ok γ) ?_
      simp -implicitDefEqProofs only [go_sem, seval, f2, f7, hq]
      refine X_skip ?_
      try simp -implicitDefEqProofs only [go_sem]
      refine kJ_in ?_ ⟨x6, h, rfl, rfl⟩
      exact To.mv [(0, 0), (1, 0)] (BaseR.refl hob) (by simp) (by decide) (by simp only [go_sem]; exact ⟨VM.refA (j := 0) (t := 0) rfl, VM.refA (j := 1) (t := 1) rfl, vS, vS⟩) ⟨⟨_, rfl, OM.box _ _ ⟨vS, vS, trivial⟩⟩, ⟨_, rfl, OM.box _ _ ⟨vS, vS, trivial⟩⟩, trivial⟩
     ·rw [if_pos f7] at h
      refine X_cond (lx_ok γ) ?_
      simp -implicitDefEqProofs only [go_sem, seval, f2, f7, hq]
      refine X_reg (lx_ok γ) ?_
      obtain ⟨x13, f8, h⟩ := bindE h
      simp -implicitDefEqProofs only [go_sem, seval, f2, f7, hq]
      refine callV_eq (bitset_With_ok γ _ (by simp -implicitDefEqProofs only [go_sem, seval, f2, f7, hq]; try rfl) (by simp -implicitDefEqProofs only [go_sem, seval, f2, f7, hq]; try rfl) f8) rfl rfl ?_
      simp -implicitDefEqProofs only [go_sem, seval, f2, f7, hq]
      refine kJ_in ?_ ⟨x13, h, rfl, rfl⟩
      exact To.mv [(0, 0), (1, 0)] (BaseR.refl hob) (by simp) (by decide) (by simp only [go_sem]; exact ⟨VM.refA (j := 0) (t := 0) rfl, VM.refA (j := 1) (t := 1) rfl, vS, vS⟩) ⟨⟨_, rfl, OM.box _ _ ⟨vS, vS, trivial⟩⟩, ⟨_, rfl, OM.box _ _ ⟨vS, vS, trivial⟩⟩, trivial⟩
    ·refine X_reg (lx_ok γ) ?_
     obtain ⟨x14, f9, h⟩ := bindE h
     obtain ⟨f10, f11, f12⟩ := ixL_some f9
     try simp only [Int.toNat_natCast, Int.reduceToNat] at f12
     cases f13 : (x14 == 2)
     ·rw [if_neg (nF f13)] at h
      simp -implicitDefEqProofs only [go_sem, seval, f2, f13, hq, f10, f11, f12]
      refine kJ_in ?_ ⟨false, h, rfl, rfl⟩
      exact To.mv [(0, 0), (3, 0)] (BaseR.refl hob) (by simp) (by decide) (by simp only [go_sem]; exact ⟨VM.refA (j := 0) (t := 0) rfl, VM.refA (j := 3) (t := 1) rfl, vS, vS, vS⟩) ⟨⟨_, rfl, OM.box _ _ ⟨vS, vS, trivial⟩⟩, ⟨_, rfl, OM.box _ _ ⟨vS, vS, trivial⟩⟩, trivial⟩
     ·rw [if_pos f13] at h
      cases f14 : (a2.Op != 16)
      ·rw [if_neg (nF f14)] at h
       obtain ⟨x15, f15, h⟩ := bindE h
       simp -implicitDefEqProofs only [go_sem, seval, f2, f13, f14, hq, f10, f11, f12]
       refine callV_eq (bitset_Has_ok γ _ (by simp -implicitDefEqProofs only [go_sem, seval, f2, f13, f14, hq, f10, f11, f12]; try rfl) f15) rfl rfl ?_
       simp -implicitDefEqProofs only [go_sem, seval, f2, f13, f14, hq, f10, f11, f12]
       refine kJ_in ?_ ⟨x15, h, rfl, rfl⟩
       exact To.mv [(0, 0), (3, 0)] (BaseR.refl hob) (by simp) (by decide) (by simp only [go_sem]; exact ⟨VM.refA (j := 0) (t := 0) rfl, VM.refA (j := 3) (t := 1) rfl, vS, vS, vS⟩) ⟨⟨_, rfl, OM.box _ _ ⟨vS, vS, trivial⟩⟩, ⟨_, rfl, OM.box _ _ ⟨vS, vS, trivial⟩⟩, trivial⟩
      ·rw [if_pos f14] at h
       simp -implicitDefEqProofs only [go_sem, seval, f2, f13, f14, hq, f10, f11, f12]
       refine kJ_in ?_ ⟨true, h, rfl, rfl⟩
       exact To.mv [(0, 0), (3, 0)] (BaseR.refl hob) (by simp) (by decide) (by simp only [go_sem]; exact ⟨VM.refA (j := 0) (t := 0) rfl, VM.refA (j := 3) (t := 1) rfl, vS, vS, vS⟩) ⟨⟨_, rfl, OM.box _ _ ⟨vS, vS, trivial⟩⟩, ⟨_, rfl, OM.box _ _ ⟨vS, vS, trivial⟩⟩, trivial⟩
  ·refine X_block ?_
   obtain ⟨lr1, hl1, hk1, hr1⟩ := aft2 h
   refine X_forN hl1 (fun (i1 : Nat) (s : (List Int)) as1 ob1 => [(3, V.ref ob.length 0), (4, V.ref (ob.length + 1) 0), (5, V.ref (ob.length + 2) 0), (6, V.ref (ob.length + 3) 0), (7, vint .i64 x1.1), (9, V.row (ob.length + 4) 0 0 (List.length s)), (32, v1_1), (33, vint .i64 (List.length a1.Base : Int)), (34, vint .i64 (i1 : Int))] = as1 ∧ ob ++ [some (O.box [V.tr (.sl 1 false (List.map (eI .u64) a0.set)), V.tr (.sl 1 false (List.map (eI .u64) a0.fresh))]), some (O.box [v1_0, v1_1, vint .i64 a1.Params, vint .i64 a1.Result, v1_4]), some (O.box [vint .i64 a2.Op, vint .i64 a2.D, vint .i64 a2.A, vint .i64 a2.B, vint .i64 a2.N, vint .i64 a2.M, v2_6]), some (O.box [V.tr (.sl 0 true []), V.tr (.sl 0 true [])]), some (O.row 1 0 (List.map (eI .i64) s))] = ob1) ⟨_, _, ?_, rfl, rfl⟩ ?_ ?_
   ·exact To.mv [(0, 0), (1, 0), (2, 0), (3, 0), (4, 0)] (BaseR.refl hob) (by simp) (by decide) (by simp only [go_sem]; exact ⟨VM.refA (j := 0) (t := 0) rfl, VM.refA (j := 1) (t := 1) rfl, VM.refA (j := 2) (t := 2) rfl, VM.refA (j := 3) (t := 3) rfl, vS, VM.rowL (j := 4) (t := 4) rfl (by first | rfl | omega | (simp [*]; done) | simp | simp_all), VM.self (by simpa using Bd.of_rdK hv1_1), vS, VM.eqv (by simp) (by simp)⟩) ⟨⟨_, rfl, OM.box _ _ ⟨vS, vS, trivial⟩⟩, ⟨_, rfl, OM.box _ _ ⟨VM.self (by simpa using Bd.of_rdK hv1_0), VM.self (by simpa using Bd.of_rdK hv1_1), vS, vS, VM.self (by simpa using Bd.of_rdK hv1_4), trivial⟩⟩, ⟨_, rfl, OM.box _ _ ⟨vS, vS, vS, vS, vS, vS, VM.self (by simpa using Bd.of_rdK hv2_6), trivial⟩⟩, ⟨_, rfl, OM.box _ _ ⟨vS, vS, trivial⟩⟩, ⟨_, rfl, OM.row' (by first | rfl | simp_all)⟩, trivial⟩
   ·rintro i1 x4 o1 hi1 hw1 h ho1 as1 ob1 ⟨rfl, rfl⟩
    rw [kind_state_behind.b1] at h
    refine X_sr (lx_ok γ) ?_
    simp -implicitDefEqProofs only [go_sem, seval, f2, hi1, hq]
    refine X_seq ?_
    refine X_cond (lx_ok γ) ?_
    simp -implicitDefEqProofs only [go_sem, seval, f2, hi1, hq]
    refine X_skip ?_
    try simp -implicitDefEqProofs only [go_sem]
    refine X_seq ?_
    refine X_block ?_
    refine X_sr (lx_ok γ) ?_
    obtain ⟨x16, f16, h⟩ := bindE h
    obtain ⟨f17, f18⟩ := ixL_nat f16
    have f19 : (0 : Int) ≤ (i1 : Int) := Int.natCast_nonneg _
    simp -implicitDefEqProofs only [go_sem, seval, f2, hi1, hq, f17, f18, f19]
    refine X_seq ?_
    refine X_jq (J := fun as1 ob1 => ∃ (x18 : Bool), kind_state_behind.j3 x4 i1 x18 = some o1 ∧ [(3, V.ref ob.length 0), (4, V.ref (ob.length + 1) 0), (5, V.ref (ob.length + 2) 0), (6, V.ref (ob.length + 3) 0), (7, vint .i64 x1.1), (9, V.row (ob.length + 4) 0 0 (List.length x4)), (10, vint .i64 (i1 : Int)), (32, v1_1), (33, vint .i64 (List.length a1.Base : Int)), (34, vint .i64 (i1 : Int)), (49, vbool x18)] = as1 ∧ ob ++ [some (O.box [V.tr (.sl 1 false (List.map (eI .u64) a0.set)), V.tr (.sl 1 false (List.map (eI .u64) a0.fresh))]), some (O.box [v1_0, v1_1, vint .i64 a1.Params, vint .i64 a1.Result, v1_4]), some (O.box [vint .i64 a2.Op, vint .i64 a2.D, vint .i64 a2.A, vint .i64 a2.B, vint .i64 a2.N, vint .i64 a2.M, v2_6]), some (O.box [V.tr (.sl 0 true []), V.tr (.sl 0 true [])]), some (O.row 1 0 (List.map (eI .i64) x4))] = ob1) ?_ ?_
    ·rintro as1 ob1 ⟨x18, h, rfl, rfl⟩
     rw [kind_state_behind.j3] at h
     simp -implicitDefEqProofs only [go_sem, seval, f2, hi1, hq]
     cases f20 : x18
     ·rw [if_neg (nF f20)] at h
      refine X_cond (lx_ok γ) ?_
      simp -implicitDefEqProofs only [go_sem, seval, f2, hi1, f20, hq]
      refine X_skip ?_
      try simp -implicitDefEqProofs only [go_sem]
      refine X_reg (lx_ok γ) ?_
      obtain rfl := sI h
      simp -implicitDefEqProofs only [go_sem, seval, f2, hi1, f20, hq]
      refine kR_in rfl ?_ ⟨rfl, rfl⟩
      exact To.mv [(0, 0), (1, 0), (2, 0), (3, 0), (4, 0)] (BaseR.refl hob) (by simp) (by decide) (by simp only [go_sem]; exact ⟨VM.refA (j := 0) (t := 0) rfl, VM.refA (j := 1) (t := 1) rfl, VM.refA (j := 2) (t := 2) rfl, VM.refA (j := 3) (t := 3) rfl, vS, VM.rowL (j := 4) (t := 4) rfl (by first | rfl | omega | (simp [*]; done) | simp | simp_all), VM.self (by simpa using Bd.of_rdK hv1_1), vS, VM.eqv (by rw [hw1]) (by simp)⟩) ⟨⟨_, rfl, OM.box _ _ ⟨vS, vS, trivial⟩⟩, ⟨_, rfl, OM.box _ _ ⟨VM.self (by simpa using Bd.of_rdK hv1_0), VM.self (by simpa using Bd.of_rdK hv1_1), vS, vS, VM.self (by simpa using Bd.of_rdK hv1_4), trivial⟩⟩, ⟨_, rfl, OM.box _ _ ⟨vS, vS, vS, vS, vS, vS, VM.self (by simpa using Bd.of_rdK hv2_6), trivial⟩⟩, ⟨_, rfl, OM.box _ _ ⟨vS, vS, trivial⟩⟩, ⟨_, rfl, OM.row' (by first | rfl | simp_all)⟩, trivial⟩
     ·rw [if_pos f20] at h
      refine X_cond (lx_ok γ) ?_
      simp -implicitDefEqProofs only [go_sem, seval, f2, hi1, f20, hq]
      refine X_reg (lx_ok γ) ?_
      obtain ⟨x19, f21, h⟩ := bindE h
      have f22 : List.length x19 * 8 ≤ 140737488355328 := by have := (appL_some f21).1; rw [(appL_some f21).2]; simpa using this
      have f23 : List.map (eI .i64) x4 ++ [[.lit (.int .i64 (i1 : Int))]] = List.map (eI .i64) x19 := by rw [(appL_some f21).2]; simp [eB, eI, eS]
      have f24 : List.length x4 + 1 = List.length x19 := by rw [(appL_some f21).2]; simp
      simp -implicitDefEqProofs only [go_sem, seval, f2, hi1, f20, hq, f22, f23, f24]
      refine X_reg (lx_ok γ) ?_
      obtain rfl := sI h
      simp -implicitDefEqProofs only [go_sem, seval, f2, hi1, f20, hq]
      refine kR_in rfl ?_ ⟨rfl, rfl⟩
      exact To.mv [(0, 0), (1, 0), (2, 0), (3, 0), (4, 1)] (BaseR.refl hob) (by simp) (by decide) (by simp only [go_sem]; exact ⟨VM.refA (j := 0) (t := 0) rfl, VM.refA (j := 1) (t := 1) rfl, VM.refA (j := 2) (t := 2) rfl, VM.refA (j := 3) (t := 3) rfl, vS, VM.rowL (j := 4) (t := 4) rfl (by first | rfl | omega | (simp [*]; done) | simp | simp_all), VM.self (by simpa using Bd.of_rdK hv1_1), vS, VM.eqv (by rw [hw1]) (by simp)⟩) ⟨⟨_, rfl, OM.box _ _ ⟨vS, vS, trivial⟩⟩, ⟨_, rfl, OM.box _ _ ⟨VM.self (by simpa using Bd.of_rdK hv1_0), VM.self (by simpa using Bd.of_rdK hv1_1), vS, vS, VM.self (by simpa using Bd.of_rdK hv1_4), trivial⟩⟩, ⟨_, rfl, OM.box _ _ ⟨vS, vS, vS, vS, vS, vS, VM.self (by simpa using Bd.of_rdK hv2_6), trivial⟩⟩, ⟨_, rfl, OM.box _ _ ⟨vS, vS, trivial⟩⟩, ⟨_, rfl, OM.row' (by first | rfl | simp_all)⟩, trivial⟩
    ·refine X_reg (lx_ok γ) ?_
     obtain ⟨x20, f25, h⟩ := bindE h
     obtain ⟨f26, f27⟩ := ixL_nat f25
     have f28 : (0 : Int) ≤ (i1 : Int) := Int.natCast_nonneg _
     cases f29 : (x20 == 2)
     ·rw [if_neg (nF f29)] at h
      simp -implicitDefEqProofs only [go_sem, seval, f2, hi1, f29, hq, f26, f27, f28]
      refine kJ_in ?_ ⟨false, h, rfl, rfl⟩
      exact To.mv [(0, 0), (1, 0), (2, 0), (3, 0), (4, 0)] (BaseR.refl hob) (by simp) (by decide) (by simp only [go_sem]; exact ⟨VM.refA (j := 0) (t := 0) rfl, VM.refA (j := 1) (t := 1) rfl, VM.refA (j := 2) (t := 2) rfl, VM.refA (j := 3) (t := 3) rfl, vS, VM.rowL (j := 4) (t := 4) rfl (by first | rfl | omega | (simp [*]; done) | simp | simp_all), vS, VM.self (by simpa using Bd.of_rdK hv1_1), vS, vS, vS⟩) ⟨⟨_, rfl, OM.box _ _ ⟨vS, vS, trivial⟩⟩, ⟨_, rfl, OM.box _ _ ⟨VM.self (by simpa using Bd.of_rdK hv1_0), VM.self (by simpa using Bd.of_rdK hv1_1), vS, vS, VM.self (by simpa using Bd.of_rdK hv1_4), trivial⟩⟩, ⟨_, rfl, OM.box _ _ ⟨vS, vS, vS, vS, vS, vS, VM.self (by simpa using Bd.of_rdK hv2_6), trivial⟩⟩, ⟨_, rfl, OM.box _ _ ⟨vS, vS, trivial⟩⟩, ⟨_, rfl, OM.row' (by first | rfl | simp_all)⟩, trivial⟩
     ·rw [if_pos f29] at h
      simp -implicitDefEqProofs only [go_sem, seval, f2, hi1, f29, hq, f26, f27, f28]
      refine kJ_in ?_ ⟨(x16 == x1.1), h, rfl, rfl⟩
      exact To.mv [(0, 0), (1, 0), (2, 0), (3, 0), (4, 0)] (BaseR.refl hob) (by simp) (by decide) (by simp only [go_sem]; exact ⟨VM.refA (j := 0) (t := 0) rfl, VM.refA (j := 1) (t := 1) rfl, VM.refA (j := 2) (t := 2) rfl, VM.refA (j := 3) (t := 3) rfl, vS, VM.rowL (j := 4) (t := 4) rfl (by first | rfl | omega | (simp [*]; done) | simp | simp_all), vS, VM.self (by simpa using Bd.of_rdK hv1_1), vS, vS, vS⟩) ⟨⟨_, rfl, OM.box _ _ ⟨vS, vS, trivial⟩⟩, ⟨_, rfl, OM.box _ _ ⟨VM.self (by simpa using Bd.of_rdK hv1_0), VM.self (by simpa using Bd.of_rdK hv1_1), vS, vS, VM.self (by simpa using Bd.of_rdK hv1_4), trivial⟩⟩, ⟨_, rfl, OM.box _ _ ⟨vS, vS, vS, vS, vS, vS, VM.self (by simpa using Bd.of_rdK hv2_6), trivial⟩⟩, ⟨_, rfl, OM.box _ _ ⟨vS, vS, trivial⟩⟩, ⟨_, rfl, OM.row' (by first | rfl | simp_all)⟩, trivial⟩
   ·rintro i1 x4 hi1 hn1 as1 ob1 ⟨rfl, rfl⟩
    refine X_sr (lx_ok γ) ?_
    simp -implicitDefEqProofs only [go_sem, seval, f2, hi1, hq]
    refine X_seq ?_
    refine X_cond (lx_ok γ) ?_
    simp -implicitDefEqProofs only [go_sem, seval, f2, hi1, hq]
    have h := hk1 _ (.inl hn1)
    refine X_exit ?_
    try simp -implicitDefEqProofs only [go_sem, ↓reduceIte, Nat.reduceEqDiff, reduceCtorEq]
    refine kJ_in ?_ ⟨x4, h, rfl, rfl⟩
    exact To.mv [(0, 0), (1, 0), (2, 0), (3, 0), (4, 0)] (BaseR.refl hob) (by simp) (by decide) (by simp only [go_sem]; exact ⟨VM.refA (j := 0) (t := 0) rfl, VM.refA (j := 1) (t := 1) rfl, VM.refA (j := 2) (t := 2) rfl, VM.refA (j := 3) (t := 3) rfl, vS, VM.rowL (j := 4) (t := 4) rfl (by first | rfl | omega | (simp [*]; done) | simp | simp_all)⟩) ⟨⟨_, rfl, OM.box _ _ ⟨vS, vS, trivial⟩⟩, ⟨_, rfl, OM.box _ _ ⟨VM.self (by simpa using Bd.of_rdK hv1_0), VM.self (by simpa using Bd.of_rdK hv1_1), vS, vS, VM.self (by simpa using Bd.of_rdK hv1_4), trivial⟩⟩, ⟨_, rfl, OM.box _ _ ⟨vS, vS, vS, vS, vS, vS, VM.self (by simpa using Bd.of_rdK hv2_6), trivial⟩⟩, ⟨_, rfl, OM.box _ _ ⟨vS, vS, trivial⟩⟩, ⟨_, rfl, OM.row' (by first | rfl | simp_all)⟩, trivial⟩
end Go.Pf
end
section
set_option maxRecDepth 100000
namespace Go.Pf
open Go Go.Ab Go.Pp Go.Proofs Go.Proofs.S08
attribute [local go_sem] Lxτ Lxγ gam0 gam1 Int.toNat_natCast tau3 tau25 tau27 tau33 tau35 tau36 tau38 tau41 tau60 tau64 eI eB eS e_Ins e_Block e_Func e_Prog e_kind_state eL_Intu64
set_option maxHeartbeats 1000000 in
theorem kind_state_through_ok (γ : GT) (ob : OT) {a0 : kind_state} {a1 : Func} {v1_0 : V} {v1_1 : V} {v1_4 : V} {a2 : Int} (hv1_0 : rdK (getO ob) 1 v1_0 = some (List.map (eI .i64) a1.Kinds)) (hv1_1 : rdK (getO ob) 1 v1_1 = some (List.map (eI .i64) a1.Base)) (hv1_4 : rdK (getO ob) 1 v1_4 = some (List.map e_Block a1.Blocks)) {r : kind_state} (h : kind_state_through a0 a1 a2 = some r) :
  Valid (Lx γ) 46 [V.agg [V.tr (.sl 1 false (List.map (eI .u64) a0.set)), V.tr (.sl 1 false (List.map (eI .u64) a0.fresh))], V.agg [v1_0, v1_1, vint .i64 a1.Params, vint .i64 a1.Result, v1_4], vint .i64 a2] ob (V.agg [V.tr (.sl 1 false (List.map (eI .u64) r.set)), V.tr (.sl 1 false (List.map (eI .u64) r.fresh))]) ob := by
 refine valid_X (lx_ok γ) (fn := Tryd.f46) (rs := [.cell 6 60]) Tryd.func46 (by kernel_rfl) rfl rfl Tryd.ntmps46 rfl (by simp) fun hb hob => ?_
 have hq := And.intro (rd4 hv1_0) (And.intro (rd4 hv1_1) (rd4 hv1_4))
 rw [kind_state_through] at h
 refine X_sr (lx_ok γ) ?_
 simp -implicitDefEqProofs only [go_sem, seval, hq]
 refine X_seq ?_
 refine X_sr (lx_ok γ) ?_
 obtain ⟨x1, f1, h⟩ := bindE h
 obtain ⟨f2, f3, f4⟩ := ixL_some f1
 try simp only [Int.toNat_natCast, Int.reduceToNat] at f4
 simp -implicitDefEqProofs only [go_sem, seval, hq, f2, f3, f4]
 refine X_jq (J := fun as1 ob1 => ∃ (x2 : List Int) (x3 : List Int), kind_state_through.k1 x2 x3 = some r ∧ [(3, V.ref ob.length 0), (6, V.ref (ob.length + 1) 0)] = as1 ∧ ob ++ [some (O.box [V.tr (.sl 1 false (List.map (eI .u64) x2)), V.tr (.sl 1 false (List.map (eI .u64) x3))]), some (O.box [V.tr (.sl 0 true []), V.tr (.sl 0 true [])])] = ob1) ?_ ?_
 ·rintro as1 ob1 ⟨x2, x3, h, rfl, rfl⟩
  rw [kind_state_through.k1] at h
  simp -implicitDefEqProofs only [go_sem, seval, hq]
  refine X_sr (lx_ok γ) ?_
  simp -implicitDefEqProofs only [go_sem, seval, hq]
  obtain rfl := sI h
  refine X_ret ?_
  simp -implicitDefEqProofs only [go_sem, seval, hq]
  exact Rt.mv0 (BaseR.refl hob) (by simp) (VM.agg ⟨vS, vS, trivial⟩)
 ·refine X_block ?_
  obtain ⟨lr1, hl1, hk1, hr1⟩ := aft2 h
  refine X_forN hl1 (fun (i1 : Nat) (s : (List Int) × (List Int)) as1 ob1 => [(3, V.ref ob.length 0), (4, V.ref (ob.length + 1) 0), (6, V.ref (ob.length + 2) 0), (14, V.tr (.sl 7 false (List.map e_Ins x1.Code))), (15, vint .i64 (List.length x1.Code : Int)), (16, vint .i64 (i1 : Int))] = as1 ∧ ob ++ [some (O.box [V.tr (.sl 1 false (List.map (eI .u64) s.1)), V.tr (.sl 1 false (List.map (eI .u64) s.2))]), some (O.box [v1_0, v1_1, vint .i64 a1.Params, vint .i64 a1.Result, v1_4]), some (O.box [V.tr (.sl 0 true []), V.tr (.sl 0 true [])])] = ob1) ⟨_, _, ?_, rfl, rfl⟩ ?_ ?_
  ·exact To.mv [(0, 0), (1, 0), (2, 0)] (BaseR.refl hob) (by simp) (by decide) (by simp only [go_sem]; exact ⟨VM.refA (j := 0) (t := 0) rfl, VM.refA (j := 1) (t := 1) rfl, VM.refA (j := 2) (t := 2) rfl, vS, vS, VM.eqv (by simp) (by simp)⟩) ⟨⟨_, rfl, OM.box _ _ ⟨vS, vS, trivial⟩⟩, ⟨_, rfl, OM.box _ _ ⟨VM.self (by simpa using Bd.of_rdK hv1_0), VM.self (by simpa using Bd.of_rdK hv1_1), vS, vS, VM.self (by simpa using Bd.of_rdK hv1_4), trivial⟩⟩, ⟨_, rfl, OM.box _ _ ⟨vS, vS, trivial⟩⟩, trivial⟩
  ·rintro i1 ⟨x2, x3⟩ o1 hi1 hw1 h ho1 as1 ob1 ⟨rfl, rfl⟩
   rw [kind_state_through.b1] at h
   refine X_sr (lx_ok γ) ?_
   simp -implicitDefEqProofs only [go_sem, seval, hi1, hq]
   refine X_seq ?_
   refine X_cond (lx_ok γ) ?_
   simp -implicitDefEqProofs only [go_sem, seval, hi1, hq]
   refine X_skip ?_
   try simp -implicitDefEqProofs only [go_sem]
   refine X_seq ?_
   refine X_block ?_
   refine X_sr (lx_ok γ) ?_
   obtain ⟨x5, f5, h⟩ := bindE h
   obtain ⟨f6, f7⟩ := ixL_nat f5
   have f8 : (0 : Int) ≤ (i1 : Int) := Int.natCast_nonneg _
   simp -implicitDefEqProofs only [go_sem, seval, hi1, hq, f6, f7, f8]
   refine X_reg (lx_ok γ) ?_
   obtain ⟨x6, f9, h⟩ := bindE h
   simp -implicitDefEqProofs only [go_sem, seval, hi1, hq]
   refine callV_eq (kind_state_behind_ok γ _ (by first | exact rdK_app hv1_0 | exact hv1_0) (by first | exact rdK_app hv1_1 | exact hv1_1) (by first | exact rdK_app hv1_4 | exact hv1_4) (by simp -implicitDefEqProofs only [go_sem, seval, hi1, hq]; try rfl) f9) rfl rfl ?_
   simp -implicitDefEqProofs only [go_sem, seval, hi1, hq]
   refine X_reg (lx_ok γ) ?_
   obtain rfl := sI h
   simp -implicitDefEqProofs only [go_sem, seval, hi1, hq]
   refine kR_in rfl ?_ ⟨rfl, rfl⟩
   exact To.mv [(0, 0), (1, 0), (2, 0)] (BaseR.refl hob) (by simp) (by decide) (by simp only [go_sem]; exact ⟨VM.refA (j := 0) (t := 0) rfl, VM.refA (j := 1) (t := 1) rfl, VM.refA (j := 2) (t := 2) rfl, vS, vS, VM.eqv (by rw [hw1]) (by simp)⟩) ⟨⟨_, rfl, OM.box _ _ ⟨vS, vS, trivial⟩⟩, ⟨_, rfl, OM.box _ _ ⟨VM.self (by simpa using Bd.of_rdK hv1_0), VM.self (by simpa using Bd.of_rdK hv1_1), vS, vS, VM.self (by simpa using Bd.of_rdK hv1_4), trivial⟩⟩, ⟨_, rfl, OM.box _ _ ⟨vS, vS, trivial⟩⟩, trivial⟩
  ·rintro i1 ⟨x2, x3⟩ hi1 hn1 as1 ob1 ⟨rfl, rfl⟩
   refine X_sr (lx_ok γ) ?_
   simp -implicitDefEqProofs only [go_sem, seval, hi1, hq]
   refine X_seq ?_
   refine X_cond (lx_ok γ) ?_
   simp -implicitDefEqProofs only [go_sem, seval, hi1, hq]
   have h := hk1 _ (.inl hn1)
   refine X_exit ?_
   try simp -implicitDefEqProofs only [go_sem, ↓reduceIte, Nat.reduceEqDiff, reduceCtorEq]
   refine kJ_in ?_ ⟨x2, x3, h, rfl, rfl⟩
   exact To.mv [(0, 0), (2, 0)] (BaseR.refl hob) (by simp) (by decide) (by simp only [go_sem]; exact ⟨VM.refA (j := 0) (t := 0) rfl, VM.refA (j := 2) (t := 1) rfl⟩) ⟨⟨_, rfl, OM.box _ _ ⟨vS, vS, trivial⟩⟩, ⟨_, rfl, OM.box _ _ ⟨vS, vS, trivial⟩⟩, trivial⟩
end Go.Pf
end
section
set_option maxRecDepth 100000
namespace Go.Pf
open Go Go.Ab Go.Pp Go.Proofs Go.Proofs.S08
attribute [local go_sem] Lxτ Lxγ gam0 gam1 Int.toNat_natCast tau3 tau25 tau27 tau33 tau35 tau36 tau38 eI eB eS e_Ins e_Block e_Func e_Prog e_kind_state eL_Intu64
set_option maxHeartbeats 1000000 in
theorem flow_Next_ok (γ : GT) (ob : OT) {a0 : Func} {v0_0 : V} {v0_1 : V} {v0_4 : V} {a1 : Int} (hv0_0 : rdK (getO ob) 1 v0_0 = some (List.map (eI .i64) a0.Kinds)) (hv0_1 : rdK (getO ob) 1 v0_1 = some (List.map (eI .i64) a0.Base)) (hv0_4 : rdK (getO ob) 1 v0_4 = some (List.map e_Block a0.Blocks)) {r : List Int} (h : flow_Next a0 a1 = some r) :
  Valid (Lx γ) 47 [V.agg [v0_0, v0_1, vint .i64 a0.Params, vint .i64 a0.Result, v0_4], vint .i64 a1] ob (V.row ob.length 0 0 (List.length r)) (ob ++ [some (O.row 1 0 (List.map (eI .i64) r))]) := by
 refine valid_X (lx_ok γ) (fn := Tryd.f47) (rs := [.tmp 4]) Tryd.func47 (by kernel_rfl) rfl rfl Tryd.ntmps47 rfl (by simp) fun hb hob => ?_
 have hq := And.intro (rd4 hv0_0) (And.intro (rd4 hv0_1) (rd4 hv0_4))
 rw [flow_Next] at h
 refine X_sr (lx_ok γ) ?_
 simp -implicitDefEqProofs only [go_sem, seval, hq]
 refine X_seq ?_
 refine X_seq ?_
 refine X_jq (J := fun as1 ob1 => ∃ (x2 : Bool), flow_Next.j1 a0 a1 x2 = some r ∧ [(1, vint .i64 a1), (2, V.ref ob.length 0), (14, vbool x2)] = as1 ∧ ob ++ [some (O.box [v0_0, v0_1, vint .i64 a0.Params, vint .i64 a0.Result, v0_4])] = ob1) ?_ ?_
 ·rintro as1 ob1 ⟨x2, h, rfl, rfl⟩
  rw [flow_Next.j1] at h
  simp -implicitDefEqProofs only [go_sem, seval, hq]
  cases f1 : x2
  ·rw [if_neg (nF f1)] at h
   refine X_cond (lx_ok γ) ?_
   simp -implicitDefEqProofs only [go_sem, seval, f1, hq]
   refine X_skip ?_
   try simp -implicitDefEqProofs only [go_sem]
   refine X_sr (lx_ok γ) ?_
   obtain ⟨x3, f2, h⟩ := bindE h
   obtain ⟨f3, f4, f5⟩ := ixL_some f2
   try simp only [Int.toNat_natCast, Int.reduceToNat] at f5
   simp -implicitDefEqProofs only [go_sem, seval, f1, hq, f3, f4, f5]
   refine X_seq ?_
   refine X_sr (lx_ok γ) ?_
   simp -implicitDefEqProofs only [go_sem, seval, f1, hq]
   cases f6 : ((List.length x3.Code : Int) == 0)
   ·rw [if_neg (nF f6)] at h
    refine X_cond (lx_ok γ) ?_
    simp -implicitDefEqProofs only [go_sem, seval, f1, f6, hq]
    refine X_skip ?_
    try simp -implicitDefEqProofs only [go_sem]
    refine X_sr (lx_ok γ) ?_
    obtain ⟨x4, f7, h⟩ := bindE h
    obtain ⟨f8, f9, f10⟩ := ixL_some f7
    try simp only [Int.toNat_natCast, Int.reduceToNat] at f10
    obtain ⟨x5, f11, h⟩ := bindE h
    simp -implicitDefEqProofs only [go_sem, seval, f1, f6, hq, f8, f9, f10]
    refine callV_eq (shape_Next_ok γ _ (by simp -implicitDefEqProofs only [go_sem, seval, f1, f6, hq, f8, f9, f10]; try rfl) f11) rfl rfl ?_
    simp -implicitDefEqProofs only [go_sem, seval, f1, f6, hq, f8, f9, f10]
    obtain rfl := sI h
    refine X_ret ?_
    simp -implicitDefEqProofs only [go_sem, seval, f1, f6, hq, f8, f9, f10]
    exact Rt.mv [(1, 0)] (BaseR.refl hob) (by simp) (by decide) (VM.rowL (j := 1) (t := 0) rfl (by first | rfl | omega | (simp [*]; done) | simp | simp_all)) ⟨⟨_, rfl, OM.row' (by first | rfl | simp_all)⟩, trivial⟩
   ·rw [if_pos f6] at h
    refine X_cond (lx_ok γ) ?_
    simp -implicitDefEqProofs only [go_sem, seval, f1, f6, hq]
    refine X_sr (lx_ok γ) ?_
    simp -implicitDefEqProofs only [go_sem, seval, f1, f6, hq]
    obtain rfl := sI h
    refine X_ret ?_
    simp -implicitDefEqProofs only [go_sem, seval, f1, f6, hq]
    exact Rt.trans (Rt.mv0 (BaseR.refl hob) (by simp) (vS)) Rt.nilRow
  ·rw [if_pos f1] at h
   refine X_cond (lx_ok γ) ?_
   simp -implicitDefEqProofs only [go_sem, seval, f1, hq]
   refine X_sr (lx_ok γ) ?_
   simp -implicitDefEqProofs only [go_sem, seval, f1, hq]
   obtain rfl := sI h
   refine X_ret ?_
   simp -implicitDefEqProofs only [go_sem, seval, f1, hq]
   exact Rt.trans (Rt.mv0 (BaseR.refl hob) (by simp) (vS)) Rt.nilRow
 ·refine X_reg (lx_ok γ) ?_
  cases f12 : decide (a1 < 0)
  ·rw [if_neg (nF f12)] at h
   simp -implicitDefEqProofs only [go_sem, seval, f12, hq]
   refine kJ_in ?_ ⟨(decide ((List.length a0.Blocks : Int) ≤ a1)), h, rfl, rfl⟩
   exact To.mv [(0, 0)] (BaseR.refl hob) (by simp) (by decide) (by simp only [go_sem]; exact ⟨vS, VM.refA (j := 0) (t := 0) rfl, vS⟩) ⟨⟨_, rfl, OM.box _ _ ⟨VM.self (by simpa using Bd.of_rdK hv0_0), VM.self (by simpa using Bd.of_rdK hv0_1), vS, vS, VM.self (by simpa using Bd.of_rdK hv0_4), trivial⟩⟩, trivial⟩
  ·rw [if_pos f12] at h
   simp -implicitDefEqProofs only [go_sem, seval, f12, hq]
   refine kJ_in ?_ ⟨true, h, rfl, rfl⟩
   exact To.mv [(0, 0)] (BaseR.refl hob) (by simp) (by decide) (by simp only [go_sem]; exact ⟨vS, VM.refA (j := 0) (t := 0) rfl, vS⟩) ⟨⟨_, rfl, OM.box _ _ ⟨VM.self (by simpa using Bd.of_rdK hv0_0), VM.self (by simpa using Bd.of_rdK hv0_1), vS, vS, VM.self (by simpa using Bd.of_rdK hv0_4), trivial⟩⟩, trivial⟩
end Go.Pf
end
section
set_option maxRecDepth 100000
namespace Go.Pf
open Go Go.Ab Go.Pp Go.Proofs Go.Proofs.S08
attribute [local go_sem] Lxτ Lxγ gam0 gam1 Int.toNat_natCast tau64 eI eB eS e_Ins e_Block e_Func e_Prog e_kind_state eL_Intu64
set_option maxHeartbeats 1000000 in
theorem bitset_Meet_1_ok (γ : GT) (ob : OT) {a0 : Int} {a1 : Int} {r : Int} (h : bitset_Meet_1 a0 a1 = some r) :
  Valid (Lx γ) 70 [vint .u64 a0, vint .u64 a1] ob (vint .u64 r) ob := by
 refine valid_X (lx_ok γ) (fn := Tryd.f70) (rs := [.tmp 4]) Tryd.func70 (by kernel_rfl) rfl rfl Tryd.ntmps70 rfl (by simp) fun hb hob => ?_
 rw [bitset_Meet_1] at h
 refine X_sr (lx_ok γ) ?_
 simp -implicitDefEqProofs only [go_sem, seval]
 refine X_sr (lx_ok γ) ?_
 simp -implicitDefEqProofs only [go_sem, seval]
 obtain rfl := sI h
 refine X_ret ?_
 simp -implicitDefEqProofs only [go_sem, seval]
 exact Rt.mv1 (BaseR.refl hob) (by simp) (vS)
end Go.Pf
end
section
set_option maxRecDepth 100000
namespace Go.Pf
open Go Go.Ab Go.Pp Go.Proofs Go.Proofs.S08
attribute [local go_sem] Lxτ Lxγ gam0 gam1 Int.toNat_natCast tau41 tau64 tau85 eI eB eS e_Ins e_Block e_Func e_Prog e_kind_state eL_Intu64
set_option maxHeartbeats 1000000 in
theorem bitset_Meet_ok (γ : GT) (ob : OT) {a0 : List Int} {v0 : V} {a1 : List Int} {v1 : V} (hv0 : rdK (getO ob) 1 v0 = some (List.map (eI .u64) a0)) (hv1 : rdK (getO ob) 1 v1 = some (List.map (eI .u64) a1)) {r : List Int} (h : bitset_Meet a0 a1 = some r) :
  Valid (Lx γ) 48 [v0, v1] ob (V.tr (.sl 1 false (List.map (eI .u64) r))) ob := by
 refine valid_X (lx_ok γ) (fn := Tryd.f48) (rs := [.tmp 4]) Tryd.func48 (by kernel_rfl) rfl rfl Tryd.ntmps48 rfl (by simp) fun hb hob => ?_
 have hq := And.intro (rd4 hv0) (rd4 hv1)
 rw [bitset_Meet] at h
 refine X_sr (lx_ok γ) ?_
 simp -implicitDefEqProofs only [go_sem, seval, hq]
 refine X_sr (lx_ok γ) ?_
 obtain ⟨x1, f1, h⟩ := bindE h
 simp -implicitDefEqProofs only [go_sem, seval, hq]
 refine callV_eq (bitset_merge_ok γ _ (by first | exact rdK_app hv0 | exact hv0) (by first | exact rdK_app hv1 | exact hv1) (fun ob1 hp y0 y1 r hx => by obtain ⟨l, rfl⟩ := hp; exact bitset_Meet_1_ok γ _  hx) f1) rfl rfl ?_
 simp -implicitDefEqProofs only [go_sem, seval, hq]
 obtain rfl := sI h
 refine X_ret ?_
 simp -implicitDefEqProofs only [go_sem, seval, hq]
 exact Rt.mv1 (BaseR.refl hob) (by simp) (vS)
end Go.Pf
end
section
set_option maxRecDepth 100000
namespace Go.Pf
open Go Go.Ab Go.Pp Go.Proofs Go.Proofs.S08
attribute [local go_sem] Lxτ Lxγ gam0 gam1 Int.toNat_natCast tau3 tau41 tau64 eI eB eS e_Ins e_Block e_Func e_Prog e_kind_state eL_Intu64
set_option maxHeartbeats 1000000 in
theorem slices_Equal_uint64_ok (γ : GT) (ob : OT) {a0 : List Int} {v0 : V} {a1 : List Int} {v1 : V} (hv0 : rdK (getO ob) 1 v0 = some (List.map (eI .u64) a0)) (hv1 : rdK (getO ob) 1 v1 = some (List.map (eI .u64) a1)) {r : Bool} (h : slices_Equal_uint64 a0 a1 = some r) :
  Valid (Lx γ) 71 [v0, v1] ob (vbool r) ob := by
 refine valid_X (lx_ok γ) (fn := Tryd.f71) (rs := [.tmp 4]) Tryd.func71 (by kernel_rfl) rfl rfl Tryd.ntmps71 rfl (by simp) fun hb hob => ?_
 have hq := And.intro (rd4 hv0) (rd4 hv1)
 rw [slices_Equal_uint64] at h
 refine X_sr (lx_ok γ) ?_
 simp -implicitDefEqProofs only [go_sem, seval, hq]
 refine X_seq ?_
 refine X_sr (lx_ok γ) ?_
 simp -implicitDefEqProofs only [go_sem, seval, hq]
 cases f1 : ((List.length a0 : Int) != (List.length a1 : Int))
 ·rw [if_neg (nF f1)] at h
  refine X_cond (lx_ok γ) ?_
  simp -implicitDefEqProofs only [go_sem, seval, f1, hq]
  refine X_skip ?_
  try simp -implicitDefEqProofs only [go_sem]
  refine X_seq ?_
  refine X_sr (lx_ok γ) ?_
  simp -implicitDefEqProofs only [go_sem, seval, f1, hq]
  refine X_jq (J := fun as1 ob1 => slices_Equal_uint64.k1 = some r ∧ [] = as1 ∧ ob = ob1) ?_ ?_
  ·rintro as1 ob1 ⟨h, rfl, rfl⟩
   rw [slices_Equal_uint64.k1] at h
   simp -implicitDefEqProofs only [go_sem, seval, f1, hq]
   refine X_sr (lx_ok γ) ?_
   simp -implicitDefEqProofs only [go_sem, seval, f1, hq]
   obtain rfl := sI h
   refine X_ret ?_
   simp -implicitDefEqProofs only [go_sem, seval, f1, hq]
   exact Rt.mv1 (BaseR.refl hob) (by simp) (vS)
  ·refine X_block ?_
   obtain ⟨lr1, hl1, hk1, hr1⟩ := aft2 h
   refine X_forN hl1 (fun (i1 : Nat) (s : Unit) as1 ob1 => [(0, v0), (1, v1), (12, vint .i64 (List.length a0 : Int)), (13, vint .i64 (i1 : Int))] = as1 ∧ ob = ob1) ⟨_, _, ?_, rfl, rfl⟩ ?_ ?_
   ·exact To.mv1 (BaseR.refl hob) (by simp) (by simp only [go_sem]; exact ⟨VM.self (by simpa using Bd.of_rdK hv0), VM.self (by simpa using Bd.of_rdK hv1), vS, VM.eqv (by simp) (by simp)⟩)
   ·rintro i1 _ o1 hi1 hw1 h ho1 as1 ob1 ⟨rfl, rfl⟩
    rw [slices_Equal_uint64.b1] at h
    refine X_sr (lx_ok γ) ?_
    simp -implicitDefEqProofs only [go_sem, seval, f1, hi1, hq]
    refine X_seq ?_
    refine X_cond (lx_ok γ) ?_
    simp -implicitDefEqProofs only [go_sem, seval, f1, hi1, hq]
    refine X_skip ?_
    try simp -implicitDefEqProofs only [go_sem]
    refine X_seq ?_
    refine X_block ?_
    refine X_sr (lx_ok γ) ?_
    simp -implicitDefEqProofs only [go_sem, seval, f1, hi1, hq]
    refine X_seq ?_
    refine X_drawn (lx_ok γ) [[], [], [0, 1], [0, 1, 2], [], [], [4, 5], [4, 5, 6], [0, 1, 2, 3, 4, 5, 6, 7]] (fun i => match i with | _ => false) (by kernel_rfl) ?_
    obtain ⟨x2, f2, h⟩ := bindE h
    obtain ⟨f3, f4⟩ := ixL_nat f2
    have f5 : (0 : Int) ≤ (i1 : Int) := Int.natCast_nonneg _
    obtain ⟨x3, f6, h⟩ := bindE h
    obtain ⟨f7, f8⟩ := ixL_nat f6
    have f9 : (0 : Int) ≤ (i1 : Int) := Int.natCast_nonneg _
    try simp -implicitDefEqProofs only [go_sem, seval, f1, hi1, hq, f3, f4, f5, f7, f8, f9, cmpr, List.getD_cons_zero, List.getD_cons_succ, List.contains_cons, List.contains_nil, Nat.reduceBEq, Bool.false_or, Bool.or_false, Bool.true_or, Bool.or_true, beq_self_eq_true]
    cases f10 : (x2 != x3)
    ·rw [if_neg (nF f10)] at h
     refine X_cond (lx_ok γ) ?_
     simp -implicitDefEqProofs only [go_sem, seval, f1, hi1, f10, hq, f3, f4, f5, f7, f8, f9]
     refine X_skip ?_
     try simp -implicitDefEqProofs only [go_sem]
     refine X_reg (lx_ok γ) ?_
     obtain rfl := sI h
     simp -implicitDefEqProofs only [go_sem, seval, f1, hi1, f10, hq]
     refine kR_in rfl ?_ ⟨rfl, rfl⟩
     exact To.mv1 (BaseR.refl hob) (by simp) (by simp only [go_sem]; exact ⟨VM.self (by simpa using Bd.of_rdK hv0), VM.self (by simpa using Bd.of_rdK hv1), vS, VM.eqv (by rw [hw1]) (by simp)⟩)
    ·rw [if_pos f10] at h
     refine X_cond (lx_ok γ) ?_
     simp -implicitDefEqProofs only [go_sem, seval, f1, hi1, f10, hq, f3, f4, f5, f7, f8, f9]
     refine X_sr (lx_ok γ) ?_
     simp -implicitDefEqProofs only [go_sem, seval, f1, hi1, f10, hq]
     obtain rfl := sI h
     have h := hr1 _ (ho1 (fun _ hs => nomatch hs))
     obtain rfl := sI h
     refine X_ret ?_
     simp -implicitDefEqProofs only [go_sem, seval, f1, hi1, f10, hq]
     exact Rt.mv1 (BaseR.refl hob) (by simp) (vS)
   ·rintro i1 _ hi1 hn1 as1 ob1 ⟨rfl, rfl⟩
    refine X_sr (lx_ok γ) ?_
    simp -implicitDefEqProofs only [go_sem, seval, f1, hi1, hq]
    refine X_seq ?_
    refine X_cond (lx_ok γ) ?_
    simp -implicitDefEqProofs only [go_sem, seval, f1, hi1, hq]
    have h := hk1 _ (.inl hn1)
    refine X_exit ?_
    try simp -implicitDefEqProofs only [go_sem, ↓reduceIte, Nat.reduceEqDiff, reduceCtorEq]
    refine kJ_in ?_ ⟨h, rfl, rfl⟩
    exact To.mv1 (BaseR.refl hob) (by simp) trivial
 ·rw [if_pos f1] at h
  refine X_cond (lx_ok γ) ?_
  simp -implicitDefEqProofs only [go_sem, seval, f1, hq]
  refine X_sr (lx_ok γ) ?_
  simp -implicitDefEqProofs only [go_sem, seval, f1, hq]
  obtain rfl := sI h
  refine X_ret ?_
  simp -implicitDefEqProofs only [go_sem, seval, f1, hq]
  exact Rt.mv1 (BaseR.refl hob) (by simp) (vS)
end Go.Pf
end
section
set_option maxRecDepth 100000
namespace Go.Pf
open Go Go.Ab Go.Pp Go.Proofs Go.Proofs.S08
attribute [local go_sem] Lxτ Lxγ gam0 gam1 Int.toNat_natCast tau41 tau64 eI eB eS e_Ins e_Block e_Func e_Prog e_kind_state eL_Intu64
set_option maxHeartbeats 1000000 in
theorem bitset_Same_ok (γ : GT) (ob : OT) {a0 : List Int} {a1 : List Int} {r : Bool} (h : bitset_Same a0 a1 = some r) :
  Valid (Lx γ) 49 [V.tr (.sl 1 false (List.map (eI .u64) a0)), V.tr (.sl 1 false (List.map (eI .u64) a1))] ob (vbool r) ob := by
 refine valid_X (lx_ok γ) (fn := Tryd.f49) (rs := [.tmp 4]) Tryd.func49 (by kernel_rfl) rfl rfl Tryd.ntmps49 rfl (by simp) fun hb hob => ?_
 rw [bitset_Same] at h
 refine X_sr (lx_ok γ) ?_
 simp -implicitDefEqProofs only [go_sem, seval]
 refine X_sr (lx_ok γ) ?_
 obtain ⟨x1, f1, h⟩ := bindE h
 simp -implicitDefEqProofs only [go_sem, seval]
 refine callV_eq (bitset_neat_ok γ _  f1) rfl rfl ?_
 obtain ⟨x2, f2, h⟩ := bindE h
 simp -implicitDefEqProofs only [go_sem, seval]
 refine callV_eq (bitset_neat_ok γ _  f2) rfl rfl ?_
 obtain ⟨x3, f3, h⟩ := bindE h
 simp -implicitDefEqProofs only [go_sem, seval]
 refine callV_eq (slices_Equal_uint64_ok γ _ (by simp -implicitDefEqProofs only [go_sem, seval]; try rfl) (by simp -implicitDefEqProofs only [go_sem, seval]; try rfl) f3) rfl rfl ?_
 simp -implicitDefEqProofs only [go_sem, seval]
 obtain rfl := sI h
 refine X_ret ?_
 simp -implicitDefEqProofs only [go_sem, seval]
 exact Rt.mv1 (BaseR.refl hob) (by simp) (vS)
end Go.Pf
end
section
set_option maxRecDepth 100000
namespace Go.Pf
open Go Go.Ab Go.Pp Go.Proofs Go.Proofs.S08
attribute [local go_sem] Lxτ Lxγ gam0 gam1 Int.toNat_natCast List.append_eq List.cons_append List.nil_append tau3 tau4 tau25 tau27 tau33 tau35 tau36 tau38 tau41 tau60 tau62 tau64 eI eB eS e_Ins e_Block e_Func e_Prog e_kind_state eL_Intu64
set_option maxHeartbeats 1000000 in
theorem kind_states_ok (γ : GT) (ob : OT) {a0 : Func} {v0_0 : V} {v0_1 : V} {v0_4 : V} (hv0_0 : rdK (getO ob) 1 v0_0 = some (List.map (eI .i64) a0.Kinds)) (hv0_1 : rdK (getO ob) 1 v0_1 = some (List.map (eI .i64) a0.Base)) (hv0_4 : rdK (getO ob) 1 v0_4 = some (List.map e_Block a0.Blocks)) {r : (List (Int × kind_state))} (h : kind_states a0 = some r) :
  Valid (Lx γ) 34 [V.agg [v0_0, v0_1, vint .i64 a0.Params, vint .i64 a0.Result, v0_4]] ob (V.mp ob.length) (ob ++ [some (O.mp (List.map Prod.fst r) (List.map (sndV m_kind_state) r))]) := by
 refine valid_X (lx_ok γ) (fn := Tryd.f34) (rs := [.tmp 2]) Tryd.func34 (by kernel_rfl) rfl rfl Tryd.ntmps34 rfl (by simp) fun hb hob => ?_
 have hq := And.intro (rd4 hv0_0) (And.intro (rd4 hv0_1) (rd4 hv0_4))
 rw [kind_states] at h
 refine X_sr (lx_ok γ) ?_
 simp -implicitDefEqProofs only [go_sem, seval, hq]
 refine X_sr (lx_ok γ) ?_
 simp -implicitDefEqProofs only [go_sem, seval, hq]
 refine X_seq ?_
 refine X_sr (lx_ok γ) ?_
 simp -implicitDefEqProofs only [go_sem, seval, hq]
 refine X_jq (J := fun as1 ob1 => ∃ (x1 : List Int), kind_states.k1 a0 x1 = some r ∧ [(1, V.ref ob.length 0), (3, V.tr (.sl 1 false (List.map (eI .u64) x1)))] = as1 ∧ ob ++ [some (O.box [v0_0, v0_1, vint .i64 a0.Params, vint .i64 a0.Result, v0_4])] = ob1) ?_ ?_
 ·rintro as1 ob1 ⟨x1, h, rfl, rfl⟩
  rw [kind_states.k1] at h
  simp -implicitDefEqProofs only [go_sem, seval, hq]
  refine X_sr (lx_ok γ) ?_
  obtain ⟨x3, f1, h⟩ := bindE h
  have f2 : putM 0 (V.agg [V.tr (.sl 1 false (List.map (eI .u64) x1)), V.tr (.sl 1 false [])]) [] [] = O.mp (List.map Prod.fst x3) (List.map (sndV m_kind_state) x3) := by obtain rfl := Option.some.inj f1; exact putM_map (g := m_kind_state) [] 0 (kind_state.mk x1 [])
  simp -implicitDefEqProofs only [go_sem, seval, hq, f2]
  refine X_seq ?_
  refine X_sr (lx_ok γ) ?_
  simp -implicitDefEqProofs only [go_sem, seval, hq]
  refine X_jq (J := fun as1 ob1 => ∃ (x4 : List (Int × kind_state)), kind_states.k2 x4 = some r ∧ [(5, V.mp ob.length)] = as1 ∧ ob ++ [some (O.mp (List.map Prod.fst x4) (List.map (sndV m_kind_state) x4))] = ob1) ?_ ?_
  ·rintro as1 ob1 ⟨x4, h, rfl, rfl⟩
   rw [kind_states.k2] at h
   simp -implicitDefEqProofs only [go_sem, seval, hq]
   refine X_sr (lx_ok γ) ?_
   simp -implicitDefEqProofs only [go_sem, seval, hq]
   obtain rfl := sI h
   refine X_ret ?_
   simp -implicitDefEqProofs only [go_sem, seval, hq]
   exact Rt.mv [(0, 0)] (BaseR.refl hob) (by simp) (by decide) (VM.mpA (j := 0) (t := 0) rfl) ⟨⟨_, rfl, OM.mpS (fun x => by simp [m_kind_state])⟩, trivial⟩
  ·refine X_block ?_
   obtain ⟨lr2, hl2, hk2, hr2⟩ := aft2 h
   refine X_while hl2 (fun (s : (List (Int × kind_state)) × (List Int)) as1 ob1 => [(1, V.ref ob.length 0), (5, V.mp (ob.length + 1)), (6, V.row (ob.length + 2) 0 0 (List.length s.2))] = as1 ∧ ob ++ [some (O.box [v0_0, v0_1, vint .i64 a0.Params, vint .i64 a0.Result, v0_4]), some (O.mp (List.map Prod.fst s.1) (List.map (sndV m_kind_state) s.1)), some (O.row 1 0 (List.map (eI .i64) s.2))] = ob1) ⟨_, _, ?_, rfl, rfl⟩ ?_
   ·exact To.mv [(0, 0), (1, 0), (2, 0)] (BaseR.refl hob) (by simp) (by decide) (by simp only [go_sem]; exact ⟨VM.refA (j := 0) (t := 0) rfl, VM.mpA (j := 1) (t := 1) rfl, VM.rowL (j := 2) (t := 2) rfl (by first | rfl | omega | (simp [*]; done) | simp | simp_all)⟩) ⟨⟨_, rfl, OM.box _ _ ⟨VM.self (by simpa using Bd.of_rdK hv0_0), VM.self (by simpa using Bd.of_rdK hv0_1), vS, vS, VM.self (by simpa using Bd.of_rdK hv0_4), trivial⟩⟩, ⟨_, rfl, OM.mpS (fun x => by simp [m_kind_state])⟩, ⟨_, rfl, OM.row' (by first | rfl | simp_all)⟩, trivial⟩
   ·rintro ⟨x4, x5⟩ o2 h ho2 as1 ob1 ⟨rfl, rfl⟩
    rw [kind_states.b2] at h
    refine X_seq ?_
    refine X_sr (lx_ok γ) ?_
    simp -implicitDefEqProofs only [go_sem, seval, hq]
    cases f3 : decide (0 < (List.length x5 : Int))
    ·rw [if_neg (nF f3)] at h
     refine X_cond (lx_ok γ) ?_
     simp -implicitDefEqProofs only [go_sem, seval, f3, hq]
     obtain rfl := sI h
     have h := hk2 _ (.inr (ho2 (fun _ hs => nomatch hs)))
     refine X_exit ?_
     try simp -implicitDefEqProofs only [go_sem, ↓reduceIte, Nat.reduceEqDiff, reduceCtorEq]
     refine kJ_in ?_ ⟨x4, h, rfl, rfl⟩
     exact To.mv [(1, 0)] (BaseR.refl hob) (by simp) (by decide) (by simp only [go_sem]; exact VM.mpA (j := 1) (t := 0) rfl) ⟨⟨_, rfl, OM.mpS (fun x => by simp [m_kind_state])⟩, trivial⟩
    ·rw [if_pos f3] at h
     refine X_cond (lx_ok γ) ?_
     simp -implicitDefEqProofs only [go_sem, seval, f3, hq]
     refine X_skip ?_
     try simp -implicitDefEqProofs only [go_sem]
     refine X_block ?_
     refine X_sr (lx_ok γ) ?_
     obtain ⟨x6, f4, h⟩ := bindE h
     obtain ⟨f5, f6, f7⟩ := ixL_some f4
     try simp only [Int.toNat_natCast, Int.reduceToNat] at f7
     simp -implicitDefEqProofs only [go_sem, seval, f3, hq, f6, f7]
     refine X_sr (lx_ok γ) ?_
     obtain ⟨x7, f8, h⟩ := bindE h
     obtain ⟨f9, f10, f11, f12⟩ := tailL_some2 f8
     try simp only [Int.toNat_natCast, Int.reduceToNat] at f10 f11 f12
     simp -implicitDefEqProofs only [go_sem, seval, f3, hq, f9, f10, f11, f12]
     have f13 : (List.length x5 - 1) = List.length x7 := by have hq := congrArg List.length f12; simp at hq; omega
     refine X.to (To.reb (t := 6) (o := (ob.length + 2)) (es := List.map (eI .i64) x5) (es' := List.map (eI .i64) x7) (nn' := List.length x7) (by first | rfl | simp -implicitDefEqProofs only [go_sem]) (by first | rfl | simp -implicitDefEqProofs only [go_sem]) (by rw [List.length_map]; exact f11) (by rw [← List.map_drop, ← List.map_take, f12]) f13 rfl rfl) ?_
     try simp -implicitDefEqProofs only [go_sem]
     refine X_sr (lx_ok γ) ?_
     obtain ⟨x8, f14, h⟩ := bindE h
     have f15 : getM (V.agg [V.tr (.sl 1 false []), V.tr (.sl 1 false [])]) x6 (List.map Prod.fst x4) (List.map (sndV m_kind_state) x4) = (V.agg [V.tr (.sl 1 false (List.map (eI .u64) x8.set)), V.tr (.sl 1 false (List.map (eI .u64) x8.fresh))], Option.isSome (getMp x4 x6)) := by obtain rfl := Option.some.inj f14; exact getM_map (g := m_kind_state) (z := (kind_state.mk [] [])) x4 x6
     obtain ⟨x9, f16, h⟩ := bindE h
     simp -implicitDefEqProofs only [go_sem, seval, f3, hq, f9, f10, f11, f12, f15]
     refine callV_eq (kind_state_through_ok γ _ (by first | exact rdK_app hv0_0 | exact hv0_0) (by first | exact rdK_app hv0_1 | exact hv0_1) (by first | exact rdK_app hv0_4 | exact hv0_4) f16) rfl rfl ?_
     simp -implicitDefEqProofs only [go_sem, seval, f3, hq, f9, f10, f11, f12, f15]
     refine X_sr (lx_ok γ) ?_
     obtain ⟨x10, f17, h⟩ := bindE h
     simp -implicitDefEqProofs only [go_sem, seval, f3, hq, f9, f10, f11, f12]
     refine callV_eq (flow_Next_ok γ _ (by first | exact rdK_app hv0_0 | exact hv0_0) (by first | exact rdK_app hv0_1 | exact hv0_1) (by first | exact rdK_app hv0_4 | exact hv0_4) f17) rfl rfl ?_
     simp -implicitDefEqProofs only [go_sem, seval, f3, hq, f9, f10, f11, f12]
     refine X_jq (J := fun as1 ob1 => ∃ (x11 : List (Int × kind_state)) (x12 : List Int), kind_states.k3 x11 x12 = some o2 ∧ [(1, V.ref ob.length 0), (5, V.mp (ob.length + 1)), (6, V.row (ob.length + 2) 0 0 (List.length x12))] = as1 ∧ ob ++ [some (O.box [v0_0, v0_1, vint .i64 a0.Params, vint .i64 a0.Result, v0_4]), some (O.mp (List.map Prod.fst x11) (List.map (sndV m_kind_state) x11)), some (O.row 1 0 (List.map (eI .i64) x12))] = ob1) ?_ ?_
     ·rintro as1 ob1 ⟨x11, x12, h, rfl, rfl⟩
      rw [kind_states.k3] at h
      obtain rfl := sI h
      simp -implicitDefEqProofs only [go_sem, seval, f3, hq, f9, f10, f11, f12]
      refine kR_in rfl ?_ ⟨rfl, rfl⟩
      exact To.mv [(0, 0), (1, 0), (2, 0)] (BaseR.refl hob) (by simp) (by decide) (by simp only [go_sem]; exact ⟨VM.refA (j := 0) (t := 0) rfl, VM.mpA (j := 1) (t := 1) rfl, VM.rowL (j := 2) (t := 2) rfl (by first | rfl | omega | (simp [*]; done) | simp | simp_all)⟩) ⟨⟨_, rfl, OM.box _ _ ⟨VM.self (by simpa using Bd.of_rdK hv0_0), VM.self (by simpa using Bd.of_rdK hv0_1), vS, vS, VM.self (by simpa using Bd.of_rdK hv0_4), trivial⟩⟩, ⟨_, rfl, OM.mpS (fun x => by simp [m_kind_state])⟩, ⟨_, rfl, OM.row' (by first | rfl | simp_all)⟩, trivial⟩
     ·refine X_block ?_
      obtain ⟨lr3, hl3, hk3, hr3⟩ := aft2 h
      refine X_forN hl3 (fun (i3 : Nat) (s : (List (Int × kind_state)) × (List Int)) as1 ob1 => [(1, V.ref ob.length 0), (5, V.mp (ob.length + 1)), (6, V.row (ob.length + 2) 0 0 (List.length s.2)), (8, V.ref (ob.length + 3) 0), (45, V.row (ob.length + 4) 0 0 (List.length x10)), (46, vint .i64 (List.length x10 : Int)), (47, vint .i64 (i3 : Int))] = as1 ∧ ob ++ [some (O.box [v0_0, v0_1, vint .i64 a0.Params, vint .i64 a0.Result, v0_4]), some (O.mp (List.map Prod.fst s.1) (List.map (sndV m_kind_state) s.1)), some (O.row 1 0 (List.map (eI .i64) s.2)), some (O.box [V.tr (.sl 1 false (List.map (eI .u64) x9.set)), V.tr (.sl 1 false (List.map (eI .u64) x9.fresh))]), some (O.row 1 0 (List.map (eI .i64) x10))] = ob1) ⟨_, _, ?_, rfl, rfl⟩ ?_ ?_
      ·exact To.mv [(0, 0), (1, 0), (2, 1), (3, 0), (4, 0)] (BaseR.refl hob) (by simp) (by decide) (by simp only [go_sem]; exact ⟨VM.refA (j := 0) (t := 0) rfl, VM.mpA (j := 1) (t := 1) rfl, VM.rowL (j := 2) (t := 2) rfl (by first | rfl | omega | (simp [*]; done) | simp | simp_all), VM.refA (j := 3) (t := 3) rfl, VM.rowL (j := 4) (t := 4) rfl (by first | rfl | omega | (simp [*]; done) | simp | simp_all), vS, VM.eqv (by simp) (by simp)⟩) ⟨⟨_, rfl, OM.box _ _ ⟨VM.self (by simpa using Bd.of_rdK hv0_0), VM.self (by simpa using Bd.of_rdK hv0_1), vS, vS, VM.self (by simpa using Bd.of_rdK hv0_4), trivial⟩⟩, ⟨_, rfl, OM.mpS (fun x => by simp [m_kind_state])⟩, ⟨_, rfl, OM.row' (by first | rfl | simp_all)⟩, ⟨_, rfl, OM.box _ _ ⟨vS, vS, trivial⟩⟩, ⟨_, rfl, OM.row' (by first | rfl | simp_all)⟩, trivial⟩
      ·rintro i3 ⟨x11, x12⟩ o3 hi3 hw3 h ho3 as1 ob1 ⟨rfl, rfl⟩
       rw [kind_states.b3] at h
       refine X_sr (lx_ok γ) ?_
       simp -implicitDefEqProofs only [go_sem, seval, f3, hi3, hq, f9, f10, f11, f12]
       refine X_seq ?_
       refine X_cond (lx_ok γ) ?_
       simp -implicitDefEqProofs only [go_sem, seval, f3, hi3, hq, f9, f10, f11, f12]
       refine X_skip ?_
       try simp -implicitDefEqProofs only [go_sem]
       refine X_seq ?_
       refine X_block ?_
       refine X_sr (lx_ok γ) ?_
       obtain ⟨x14, f18, h⟩ := bindE h
       obtain ⟨f19, f20⟩ := ixL_nat f18
       have f21 : (0 : Int) ≤ (i3 : Int) := Int.natCast_nonneg _
       simp -implicitDefEqProofs only [go_sem, seval, f3, hi3, hq, f9, f10, f11, f12, f19, f20, f21]
       refine X_sr (lx_ok γ) ?_
       obtain ⟨x15, f22, h⟩ := bindE h
       have f23 : getM (V.agg [V.tr (.sl 1 false []), V.tr (.sl 1 false [])]) x14 (List.map Prod.fst x11) (List.map (sndV m_kind_state) x11) = (V.agg [V.tr (.sl 1 false (List.map (eI .u64) x15.set)), V.tr (.sl 1 false (List.map (eI .u64) x15.fresh))], Option.isSome (getMp x11 x14)) := by obtain rfl := Option.some.inj f22; exact getM_map (g := m_kind_state) (z := (kind_state.mk [] [])) x11 x14
       simp -implicitDefEqProofs only [go_sem, seval, f3, hi3, hq, f9, f10, f11, f12, f23]
       refine X_sr (lx_ok γ) ?_
       simp -implicitDefEqProofs only [go_sem, seval, f3, hi3, hq, f9, f10, f11, f12]
       refine X_seq ?_
       refine X_jq (J := fun as1 ob1 => ∃ (x16 : List Int) (x17 : List Int) (x19 : Bool), kind_states.j1 x11 x12 x14 x15 x16 x17 x19 = some o3 ∧ [(1, V.ref ob.length 0), (5, V.mp (ob.length + 1)), (6, V.row (ob.length + 2) 0 0 (List.length x12)), (8, V.ref (ob.length + 3) 0), (10, vint .i64 x14), (11, V.ref (ob.length + 4) 0), (12, vbool x19), (13, V.ref (ob.length + 5) 0), (45, V.row (ob.length + 6) 0 0 (List.length x10)), (46, vint .i64 (List.length x10 : Int)), (47, vint .i64 (i3 : Int))] = as1 ∧ ob ++ [some (O.box [v0_0, v0_1, vint .i64 a0.Params, vint .i64 a0.Result, v0_4]), some (O.mp (List.map Prod.fst x11) (List.map (sndV m_kind_state) x11)), some (O.row 1 0 (List.map (eI .i64) x12)), some (O.box [V.tr (.sl 1 false (List.map (eI .u64) x9.set)), V.tr (.sl 1 false (List.map (eI .u64) x9.fresh))]), some (O.box [V.tr (.sl 1 false (List.map (eI .u64) x15.set)), V.tr (.sl 1 false (List.map (eI .u64) x15.fresh))]), some (O.box [V.tr (.sl 1 false (List.map (eI .u64) x16)), V.tr (.sl 1 false (List.map (eI .u64) x17))]), some (O.row 1 0 (List.map (eI .i64) x10))] = ob1) ?_ ?_
       ·rintro as1 ob1 ⟨x16, x17, x19, h, rfl, rfl⟩
        rw [kind_states.j1] at h
        simp -implicitDefEqProofs only [go_sem, seval, f3, hi3, hq, f9, f10, f11, f12]
        refine X_seq ?_
        refine X_jq (J := fun as1 ob1 => ∃ (x21 : Bool), kind_states.j2 x11 x12 x14 x16 x17 x21 = some o3 ∧ [(1, V.ref ob.length 0), (5, V.mp (ob.length + 1)), (6, V.row (ob.length + 2) 0 0 (List.length x12)), (8, V.ref (ob.length + 3) 0), (10, vint .i64 x14), (13, V.ref (ob.length + 4) 0), (45, V.row (ob.length + 5) 0 0 (List.length x10)), (46, vint .i64 (List.length x10 : Int)), (47, vint .i64 (i3 : Int)), (87, vbool x21)] = as1 ∧ ob ++ [some (O.box [v0_0, v0_1, vint .i64 a0.Params, vint .i64 a0.Result, v0_4]), some (O.mp (List.map Prod.fst x11) (List.map (sndV m_kind_state) x11)), some (O.row 1 0 (List.map (eI .i64) x12)), some (O.box [V.tr (.sl 1 false (List.map (eI .u64) x9.set)), V.tr (.sl 1 false (List.map (eI .u64) x9.fresh))]), some (O.box [V.tr (.sl 1 false (List.map (eI .u64) x16)), V.tr (.sl 1 false (List.map (eI .u64) x17))]), some (O.row 1 0 (List.map (eI .i64) x10))] = ob1) ?_ ?_
        ·rintro as1 ob1 ⟨x21, h, rfl, rfl⟩
         rw [kind_states.j2] at h
         simp -implicitDefEqProofs only [go_sem, seval, f3, hi3, hq, f9, f10, f11, f12]
         cases f24 : x21
         ·rw [if_neg (nF f24)] at h
          refine X_cond (lx_ok γ) ?_
          simp -implicitDefEqProofs only [go_sem, seval, f3, hi3, f24, hq, f9, f10, f11, f12]
          refine X_skip ?_
          try simp -implicitDefEqProofs only [go_sem]
          refine X_reg (lx_ok γ) ?_
          obtain rfl := sI h
          simp -implicitDefEqProofs only [go_sem, seval, f3, hi3, f24, hq, f9, f10, f11, f12]
          refine kR_in rfl ?_ ⟨rfl, rfl⟩
          exact To.mv [(0, 0), (1, 0), (2, 0), (3, 0), (5, 0)] (BaseR.refl hob) (by simp) (by decide) (by simp only [go_sem]; exact ⟨VM.refA (j := 0) (t := 0) rfl, VM.mpA (j := 1) (t := 1) rfl, VM.rowL (j := 2) (t := 2) rfl (by first | rfl | omega | (simp [*]; done) | simp | simp_all), VM.refA (j := 3) (t := 3) rfl, VM.rowL (j := 5) (t := 4) rfl (by first | rfl | omega | (simp [*]; done) | simp | simp_all), vS, VM.eqv (by rw [hw3]) (by simp)⟩) ⟨⟨_, rfl, OM.box _ _ ⟨VM.self (by simpa using Bd.of_rdK hv0_0), VM.self (by simpa using Bd.of_rdK hv0_1), vS, vS, VM.self (by simpa using Bd.of_rdK hv0_4), trivial⟩⟩, ⟨_, rfl, OM.mpS (fun x => by simp [m_kind_state])⟩, ⟨_, rfl, OM.row' (by first | rfl | simp_all)⟩, ⟨_, rfl, OM.box _ _ ⟨vS, vS, trivial⟩⟩, ⟨_, rfl, OM.row' (by first | rfl | simp_all)⟩, trivial⟩
         ·rw [if_pos f24] at h
          refine X_cond (lx_ok γ) ?_
          simp -implicitDefEqProofs only [go_sem, seval, f3, hi3, f24, hq, f9, f10, f11, f12]
          refine X_sr (lx_ok γ) ?_
          obtain ⟨x22, f25, h⟩ := bindE h
          have f26 : putM x14 (V.agg [V.tr (.sl 1 false (List.map (eI .u64) x16)), V.tr (.sl 1 false (List.map (eI .u64) x17))]) (List.map Prod.fst x11) (List.map (sndV m_kind_state) x11) = O.mp (List.map Prod.fst x22) (List.map (sndV m_kind_state) x22) := by obtain rfl := Option.some.inj f25; exact putM_map (g := m_kind_state) x11 x14 (kind_state.mk x16 x17)
          simp -implicitDefEqProofs only [go_sem, seval, f3, hi3, f24, hq, f9, f10, f11, f12, f26]
          refine X_reg (lx_ok γ) ?_
          obtain ⟨x23, f27, h⟩ := bindE h
          have f28 : List.length x23 * 8 ≤ 140737488355328 := by have := (appL_some f27).1; rw [(appL_some f27).2]; simpa using this
          have f29 : List.map (eI .i64) x12 ++ [[.lit (.int .i64 x14)]] = List.map (eI .i64) x23 := by rw [(appL_some f27).2]; simp [eB, eI, eS]
          have f30 : List.length x12 + 1 = List.length x23 := by rw [(appL_some f27).2]; simp
          simp -implicitDefEqProofs only [go_sem, seval, f3, hi3, f24, hq, f9, f10, f11, f12, f28, f29, f30]
          refine X_reg (lx_ok γ) ?_
          obtain rfl := sI h
          simp -implicitDefEqProofs only [go_sem, seval, f3, hi3, f24, hq, f9, f10, f11, f12]
          refine kR_in rfl ?_ ⟨rfl, rfl⟩
          exact To.mv [(0, 0), (1, 0), (2, 1), (3, 0), (5, 0)] (BaseR.refl hob) (by simp) (by decide) (by simp only [go_sem]; exact ⟨VM.refA (j := 0) (t := 0) rfl, VM.mpA (j := 1) (t := 1) rfl, VM.rowL (j := 2) (t := 2) rfl (by first | rfl | omega | (simp [*]; done) | simp | simp_all), VM.refA (j := 3) (t := 3) rfl, VM.rowL (j := 5) (t := 4) rfl (by first | rfl | omega | (simp [*]; done) | simp | simp_all), vS, VM.eqv (by rw [hw3]) (by simp)⟩) ⟨⟨_, rfl, OM.box _ _ ⟨VM.self (by simpa using Bd.of_rdK hv0_0), VM.self (by simpa using Bd.of_rdK hv0_1), vS, vS, VM.self (by simpa using Bd.of_rdK hv0_4), trivial⟩⟩, ⟨_, rfl, OM.mpS (fun x => by simp [m_kind_state])⟩, ⟨_, rfl, OM.row' (by first | rfl | simp_all)⟩, ⟨_, rfl, OM.box _ _ ⟨vS, vS, trivial⟩⟩, ⟨_, rfl, OM.row' (by first | rfl | simp_all)⟩, trivial⟩
        ·refine X_reg (lx_ok γ) ?_
         cases f31 : x19
         ·rw [if_neg (nF f31)] at h
          simp -implicitDefEqProofs only [go_sem, seval, f3, hi3, f31, hq, f9, f10, f11, f12]
          refine kJ_in ?_ ⟨true, h, rfl, rfl⟩
          exact To.mv [(0, 0), (1, 0), (2, 0), (3, 0), (5, 0), (6, 0)] (BaseR.refl hob) (by simp) (by decide) (by simp only [go_sem]; exact ⟨VM.refA (j := 0) (t := 0) rfl, VM.mpA (j := 1) (t := 1) rfl, VM.rowL (j := 2) (t := 2) rfl (by first | rfl | omega | (simp [*]; done) | simp | simp_all), VM.refA (j := 3) (t := 3) rfl, vS, VM.refA (j := 5) (t := 4) rfl, VM.rowL (j := 6) (t := 5) rfl (by first | rfl | omega | (simp [*]; done) | simp | simp_all), vS, vS, vS⟩) ⟨⟨_, rfl, OM.box _ _ ⟨VM.self (by simpa using Bd.of_rdK hv0_0), VM.self (by simpa using Bd.of_rdK hv0_1), vS, vS, VM.self (by simpa using Bd.of_rdK hv0_4), trivial⟩⟩, ⟨_, rfl, OM.mpS (fun x => by simp [m_kind_state])⟩, ⟨_, rfl, OM.row' (by first | rfl | simp_all)⟩, ⟨_, rfl, OM.box _ _ ⟨vS, vS, trivial⟩⟩, ⟨_, rfl, OM.box _ _ ⟨vS, vS, trivial⟩⟩, ⟨_, rfl, OM.row' (by first | rfl | simp_all)⟩, trivial⟩
         ·rw [if_pos f31] at h
          obtain ⟨x24, f32, h⟩ := bindE h
          simp -implicitDefEqProofs only [go_sem, seval, f3, hi3, f31, hq, f9, f10, f11, f12]
          refine callV_eq (bitset_Same_ok γ _  f32) rfl rfl ?_
          cases f33 : x24
          ·rw [if_neg (nF f33)] at h
           simp -implicitDefEqProofs only [go_sem, seval, f3, hi3, f31, f33, hq, f9, f10, f11, f12]
           refine kJ_in ?_ ⟨true, h, rfl, rfl⟩
           exact To.mv [(0, 0), (1, 0), (2, 0), (3, 0), (5, 0), (6, 0)] (BaseR.refl hob) (by simp) (by decide) (by simp only [go_sem]; exact ⟨VM.refA (j := 0) (t := 0) rfl, VM.mpA (j := 1) (t := 1) rfl, VM.rowL (j := 2) (t := 2) rfl (by first | rfl | omega | (simp [*]; done) | simp | simp_all), VM.refA (j := 3) (t := 3) rfl, vS, VM.refA (j := 5) (t := 4) rfl, VM.rowL (j := 6) (t := 5) rfl (by first | rfl | omega | (simp [*]; done) | simp | simp_all), vS, vS, vS⟩) ⟨⟨_, rfl, OM.box _ _ ⟨VM.self (by simpa using Bd.of_rdK hv0_0), VM.self (by simpa using Bd.of_rdK hv0_1), vS, vS, VM.self (by simpa using Bd.of_rdK hv0_4), trivial⟩⟩, ⟨_, rfl, OM.mpS (fun x => by simp [m_kind_state])⟩, ⟨_, rfl, OM.row' (by first | rfl | simp_all)⟩, ⟨_, rfl, OM.box _ _ ⟨vS, vS, trivial⟩⟩, ⟨_, rfl, OM.box _ _ ⟨vS, vS, trivial⟩⟩, ⟨_, rfl, OM.row' (by first | rfl | simp_all)⟩, trivial⟩
          ·rw [if_pos f33] at h
           obtain ⟨x25, f34, h⟩ := bindE h
           simp -implicitDefEqProofs only [go_sem, seval, f3, hi3, f31, f33, hq, f9, f10, f11, f12]
           refine callV_eq (bitset_Same_ok γ _  f34) rfl rfl ?_
           simp -implicitDefEqProofs only [go_sem, seval, f3, hi3, f31, f33, hq, f9, f10, f11, f12]
           refine kJ_in ?_ ⟨(!x25), h, rfl, rfl⟩
           exact To.mv [(0, 0), (1, 0), (2, 0), (3, 0), (5, 0), (6, 0)] (BaseR.refl hob) (by simp) (by decide) (by simp only [go_sem]; exact ⟨VM.refA (j := 0) (t := 0) rfl, VM.mpA (j := 1) (t := 1) rfl, VM.rowL (j := 2) (t := 2) rfl (by first | rfl | omega | (simp [*]; done) | simp | simp_all), VM.refA (j := 3) (t := 3) rfl, vS, VM.refA (j := 5) (t := 4) rfl, VM.rowL (j := 6) (t := 5) rfl (by first | rfl | omega | (simp [*]; done) | simp | simp_all), vS, vS, vS⟩) ⟨⟨_, rfl, OM.box _ _ ⟨VM.self (by simpa using Bd.of_rdK hv0_0), VM.self (by simpa using Bd.of_rdK hv0_1), vS, vS, VM.self (by simpa using Bd.of_rdK hv0_4), trivial⟩⟩, ⟨_, rfl, OM.mpS (fun x => by simp [m_kind_state])⟩, ⟨_, rfl, OM.row' (by first | rfl | simp_all)⟩, ⟨_, rfl, OM.box _ _ ⟨vS, vS, trivial⟩⟩, ⟨_, rfl, OM.box _ _ ⟨vS, vS, trivial⟩⟩, ⟨_, rfl, OM.row' (by first | rfl | simp_all)⟩, trivial⟩
       ·refine X_sr (lx_ok γ) ?_
        simp -implicitDefEqProofs only [go_sem, seval, f3, hi3, hq, f9, f10, f11, f12]
        cases f35 : (Option.isSome (getMp x11 x14))
        ·rw [if_neg (nF f35)] at h
         refine X_cond (lx_ok γ) ?_
         simp -implicitDefEqProofs only [go_sem, seval, f3, hi3, f35, hq, f9, f10, f11, f12]
         refine X_skip ?_
         try simp -implicitDefEqProofs only [go_sem]
         refine kJ_in ?_ ⟨x9.set, x9.fresh, false, h, rfl, rfl⟩
         exact To.mv [(0, 0), (1, 0), (2, 0), (3, 0), (5, 0), (6, 0), (4, 0)] (BaseR.refl hob) (by simp) (by decide) (by simp only [go_sem]; exact ⟨VM.refA (j := 0) (t := 0) rfl, VM.mpA (j := 1) (t := 1) rfl, VM.rowL (j := 2) (t := 2) rfl (by first | rfl | omega | (simp [*]; done) | simp | simp_all), VM.refA (j := 3) (t := 3) rfl, vS, VM.refA (j := 5) (t := 4) rfl, vS, VM.refA (j := 6) (t := 5) rfl, VM.rowL (j := 4) (t := 6) rfl (by first | rfl | omega | (simp [*]; done) | simp | simp_all), vS, vS⟩) ⟨⟨_, rfl, OM.box _ _ ⟨VM.self (by simpa using Bd.of_rdK hv0_0), VM.self (by simpa using Bd.of_rdK hv0_1), vS, vS, VM.self (by simpa using Bd.of_rdK hv0_4), trivial⟩⟩, ⟨_, rfl, OM.mpS (fun x => by simp [m_kind_state])⟩, ⟨_, rfl, OM.row' (by first | rfl | simp_all)⟩, ⟨_, rfl, OM.box _ _ ⟨vS, vS, trivial⟩⟩, ⟨_, rfl, OM.box _ _ ⟨vS, vS, trivial⟩⟩, ⟨_, rfl, OM.box _ _ ⟨vS, vS, trivial⟩⟩, ⟨_, rfl, OM.row' (by first | rfl | simp_all)⟩, trivial⟩
        ·rw [if_pos f35] at h
         refine X_cond (lx_ok γ) ?_
         simp -implicitDefEqProofs only [go_sem, seval, f3, hi3, f35, hq, f9, f10, f11, f12]
         refine X_drawn (lx_ok γ) [[], [0], [], [2], [0, 1, 2, 3], [], [5], [], [7], [0, 1, 2, 3, 4, 5, 6, 7, 8], [0, 1, 2, 3, 4, 5, 6, 7, 8, 9], [0, 1, 2, 3, 4, 5, 6, 7, 8, 9, 10]] (fun i => match i with | 11 => true | _ => false) (by kernel_rfl) ?_
         obtain ⟨x26, f36, h⟩ := bindE h
         try simp -implicitDefEqProofs only [go_sem, seval, f3, hi3, f35, hq, f9, f10, f11, f12, cmpr, List.getD_cons_zero, List.getD_cons_succ, List.contains_cons, List.contains_nil, Nat.reduceBEq, Bool.false_or, Bool.or_false, Bool.true_or, Bool.or_true, beq_self_eq_true]
         refine callV_eq (bitset_Meet_ok γ _ (by simp -implicitDefEqProofs only [go_sem, seval, f3, hi3, f35, hq, f9, f10, f11, f12]; try rfl) (by simp -implicitDefEqProofs only [go_sem, seval, f3, hi3, f35, hq, f9, f10, f11, f12]; try rfl) f36) rfl rfl ?_
         obtain ⟨x27, f37, h⟩ := bindE h
         try simp -implicitDefEqProofs only [go_sem, seval, f3, hi3, f35, hq, f9, f10, f11, f12, cmpr, List.getD_cons_zero, List.getD_cons_succ, List.contains_cons, List.contains_nil, Nat.reduceBEq, Bool.false_or, Bool.or_false, Bool.true_or, Bool.or_true, beq_self_eq_true]
         refine callV_eq (bitset_Meet_ok γ _ (by simp -implicitDefEqProofs only [go_sem, seval, f3, hi3, f35, hq, f9, f10, f11, f12]; try rfl) (by simp -implicitDefEqProofs only [go_sem, seval, f3, hi3, f35, hq, f9, f10, f11, f12]; try rfl) f37) rfl rfl ?_
         try simp -implicitDefEqProofs only [go_sem, seval, f3, hi3, f35, hq, f9, f10, f11, f12, cmpr, List.getD_cons_zero, List.getD_cons_succ, List.contains_cons, List.contains_nil, Nat.reduceBEq, Bool.false_or, Bool.or_false, Bool.true_or, Bool.or_true, beq_self_eq_true]
         refine kJ_in ?_ ⟨x26, x27, true, h, rfl, rfl⟩
         exact To.mv [(0, 0), (1, 0), (2, 0), (3, 0), (5, 0), (6, 0), (4, 0)] (BaseR.refl hob) (by simp) (by decide) (by simp only [go_sem]; exact ⟨VM.refA (j := 0) (t := 0) rfl, VM.mpA (j := 1) (t := 1) rfl, VM.rowL (j := 2) (t := 2) rfl (by first | rfl | omega | (simp [*]; done) | simp | simp_all), VM.refA (j := 3) (t := 3) rfl, vS, VM.refA (j := 5) (t := 4) rfl, vS, VM.refA (j := 6) (t := 5) rfl, VM.rowL (j := 4) (t := 6) rfl (by first | rfl | omega | (simp [*]; done) | simp | simp_all), vS, vS⟩) ⟨⟨_, rfl, OM.box _ _ ⟨VM.self (by simpa using Bd.of_rdK hv0_0), VM.self (by simpa using Bd.of_rdK hv0_1), vS, vS, VM.self (by simpa using Bd.of_rdK hv0_4), trivial⟩⟩, ⟨_, rfl, OM.mpS (fun x => by simp [m_kind_state])⟩, ⟨_, rfl, OM.row' (by first | rfl | simp_all)⟩, ⟨_, rfl, OM.box _ _ ⟨vS, vS, trivial⟩⟩, ⟨_, rfl, OM.box _ _ ⟨vS, vS, trivial⟩⟩, ⟨_, rfl, OM.box _ _ ⟨vS, vS, trivial⟩⟩, ⟨_, rfl, OM.row' (by first | rfl | simp_all)⟩, trivial⟩
      ·rintro i3 ⟨x11, x12⟩ hi3 hn3 as1 ob1 ⟨rfl, rfl⟩
       refine X_sr (lx_ok γ) ?_
       simp -implicitDefEqProofs only [go_sem, seval, f3, hi3, hq, f9, f10, f11, f12]
       refine X_seq ?_
       refine X_cond (lx_ok γ) ?_
       simp -implicitDefEqProofs only [go_sem, seval, f3, hi3, hq, f9, f10, f11, f12]
       have h := hk3 _ (.inl hn3)
       refine X_exit ?_
       try simp -implicitDefEqProofs only [go_sem, ↓reduceIte, Nat.reduceEqDiff, reduceCtorEq]
       refine kJ_in ?_ ⟨x11, x12, h, rfl, rfl⟩
       exact To.mv [(0, 0), (1, 0), (2, 0)] (BaseR.refl hob) (by simp) (by decide) (by simp only [go_sem]; exact ⟨VM.refA (j := 0) (t := 0) rfl, VM.mpA (j := 1) (t := 1) rfl, VM.rowL (j := 2) (t := 2) rfl (by first | rfl | omega | (simp [*]; done) | simp | simp_all)⟩) ⟨⟨_, rfl, OM.box _ _ ⟨VM.self (by simpa using Bd.of_rdK hv0_0), VM.self (by simpa using Bd.of_rdK hv0_1), vS, vS, VM.self (by simpa using Bd.of_rdK hv0_4), trivial⟩⟩, ⟨_, rfl, OM.mpS (fun x => by simp [m_kind_state])⟩, ⟨_, rfl, OM.row' (by first | rfl | simp_all)⟩, trivial⟩
 ·refine X_block ?_
  obtain ⟨lr1, hl1, hk1, hr1⟩ := aft2 h
  refine X_forN hl1 (fun (i1 : Nat) (s : (List Int)) as1 ob1 => [(1, V.ref ob.length 0), (3, V.tr (.sl 1 false (List.map (eI .u64) s))), (15, vint .i64 a0.Params), (16, vint .i64 (i1 : Int))] = as1 ∧ ob ++ [some (O.box [v0_0, v0_1, vint .i64 a0.Params, vint .i64 a0.Result, v0_4])] = ob1) ⟨_, _, ?_, rfl, rfl⟩ ?_ ?_
  ·exact To.mv [(0, 0)] (BaseR.refl hob) (by simp) (by decide) (by simp only [go_sem]; exact ⟨VM.refA (j := 0) (t := 0) rfl, VM.nil _ _ _, vS, VM.eqv (by simp) (by simp)⟩) ⟨⟨_, rfl, OM.box _ _ ⟨VM.self (by simpa using Bd.of_rdK hv0_0), VM.self (by simpa using Bd.of_rdK hv0_1), vS, vS, VM.self (by simpa using Bd.of_rdK hv0_4), trivial⟩⟩, trivial⟩
  ·rintro i1 x1 o1 hi1 hw1 h ho1 as1 ob1 ⟨rfl, rfl⟩
   rw [kind_states.b1] at h
   refine X_sr (lx_ok γ) ?_
   simp -implicitDefEqProofs only [go_sem, seval, hi1, hq]
   refine X_seq ?_
   refine X_cond (lx_ok γ) ?_
   simp -implicitDefEqProofs only [go_sem, seval, hi1, hq]
   refine X_skip ?_
   try simp -implicitDefEqProofs only [go_sem]
   refine X_seq ?_
   refine X_block ?_
   refine X_sr (lx_ok γ) ?_
   simp -implicitDefEqProofs only [go_sem, seval, hi1, hq]
   refine X_reg (lx_ok γ) ?_
   obtain ⟨x28, f38, h⟩ := bindE h
   simp -implicitDefEqProofs only [go_sem, seval, hi1, hq]
   refine callV_eq (bitset_With_ok γ _ (by simp -implicitDefEqProofs only [go_sem, seval, hi1, hq]; try rfl) (by simp -implicitDefEqProofs only [go_sem, seval, hi1, hq]; try rfl) f38) rfl rfl ?_
   simp -implicitDefEqProofs only [go_sem, seval, hi1, hq]
   refine X_reg (lx_ok γ) ?_
   obtain rfl := sI h
   simp -implicitDefEqProofs only [go_sem, seval, hi1, hq]
   refine kR_in rfl ?_ ⟨rfl, rfl⟩
   exact To.mv [(0, 0)] (BaseR.refl hob) (by simp) (by decide) (by simp only [go_sem]; exact ⟨VM.refA (j := 0) (t := 0) rfl, vS, vS, VM.eqv (by rw [hw1]) (by simp)⟩) ⟨⟨_, rfl, OM.box _ _ ⟨VM.self (by simpa using Bd.of_rdK hv0_0), VM.self (by simpa using Bd.of_rdK hv0_1), vS, vS, VM.self (by simpa using Bd.of_rdK hv0_4), trivial⟩⟩, trivial⟩
  ·rintro i1 x1 hi1 hn1 as1 ob1 ⟨rfl, rfl⟩
   refine X_sr (lx_ok γ) ?_
   simp -implicitDefEqProofs only [go_sem, seval, hi1, hq]
   refine X_seq ?_
   refine X_cond (lx_ok γ) ?_
   simp -implicitDefEqProofs only [go_sem, seval, hi1, hq]
   have h := hk1 _ (.inl hn1)
   refine X_exit ?_
   try simp -implicitDefEqProofs only [go_sem, ↓reduceIte, Nat.reduceEqDiff, reduceCtorEq]
   refine kJ_in ?_ ⟨x1, h, rfl, rfl⟩
   exact To.mv [(0, 0)] (BaseR.refl hob) (by simp) (by decide) (by simp only [go_sem]; exact ⟨VM.refA (j := 0) (t := 0) rfl, vS⟩) ⟨⟨_, rfl, OM.box _ _ ⟨VM.self (by simpa using Bd.of_rdK hv0_0), VM.self (by simpa using Bd.of_rdK hv0_1), vS, vS, VM.self (by simpa using Bd.of_rdK hv0_4), trivial⟩⟩, trivial⟩
end Go.Pf
end
