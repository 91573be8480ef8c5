/- Each function computes what its plain one says, part 2 -/
import Derived.Test.YtcbbchfhfacbdaaDoorNK1
set_option linter.all false
section
set_option maxRecDepth 100000
namespace Go.Pf
open Go Go.Ab Go.Pp Go.Proofs Go.Proofs.S04
attribute [local go_sem] Lxτ Lxγ gam0 Int.toNat_natCast List.append_eq List.cons_append List.nil_append tau3 tau4 tau9 tau22 tau24 tau28 tau29 tau31 tau35 tau42 tau44 eI eB eS e_Ins e_Block e_Func e_Prog e_code_writer e_code_reader e_Edge
set_option maxHeartbeats 1000000 in
theorem portolanref04_Ins_ok (γ : GT) (ob : OT) {a0 : Prog} {v0_0 : V} {a1 : Int} {a2 : Ins} {v2_6 : V} (hv0_0 : rdK (getO ob) 5 v0_0 = some (List.map e_Func a0.Funcs)) (hv2_6 : rdK (getO ob) 1 v2_6 = some (List.map (eI .i64) a2.Args)) {r : Bool} (h : portolanref04_Ins a0 a1 a2 = some r) :
  Valid (Lx γ) 18 [V.agg [v0_0], vint .i64 a1, V.agg [vint .i64 a2.Op, vint .i64 a2.D, vint .i64 a2.A, vint .i64 a2.B, vint .i64 a2.N, vint .i64 a2.M, v2_6]] ob (vbool r) ob := by
 refine valid_X (lx_ok γ) (fn := Tryd.f18) (rs := [.tmp 6]) Tryd.func18 (by kernel_rfl) rfl rfl Tryd.ntmps18 rfl (by simp) fun hb hob => ?_
 have hq := And.intro (rd4 hv0_0) (rd4 hv2_6)
 rw [portolanref04_Ins] at h
 refine X_sr (lx_ok γ) ?_
 simp -implicitDefEqProofs only [go_sem, seval, hq]
 refine X_seq ?_
 refine X_seq ?_
 refine X_jq (J := fun as1 ob1 => ∃ (x2 : Bool), portolanref04_Ins.j1 a0 a1 a2 x2 = some r ∧ [(1, vint .i64 a1), (3, V.ref ob.length 0), (5, V.ref (ob.length + 1) 0), (31, vbool x2)] = as1 ∧ ob ++ [some (O.box [v0_0]), some (O.box [vint .i64 a2.Op, vint .i64 a2.D, vint .i64 a2.A, vint .i64 a2.B, vint .i64 a2.N, vint .i64 a2.M, v2_6])] = ob1) ?_ ?_
 ·rintro as1 ob1 ⟨x2, h, rfl, rfl⟩
  rw [portolanref04_Ins.j1] at h
  simp -implicitDefEqProofs only [go_sem, seval, hq]
  cases f1 : x2
  ·rw [if_neg (nF f1)] at h
   refine X_cond (lx_ok γ) ?_
   simp -implicitDefEqProofs only [go_sem, seval, f1, hq]
   refine X_skip ?_
   try simp -implicitDefEqProofs only [go_sem]
   refine X_sr (lx_ok γ) ?_
   obtain ⟨x3, f2, h⟩ := bindE h
   obtain ⟨f3, f4, f5⟩ := ixL_some f2
   try simp only [Int.toNat_natCast, Int.reduceToNat] at f5
   simp -implicitDefEqProofs only [go_sem, seval, f1, hq, f3, f4, f5]
   refine X_sr (lx_ok γ) ?_
   obtain ⟨x4, f6, h⟩ := bindE h
   simp -implicitDefEqProofs only [go_sem, seval, f1, hq]
   refine callV_eq (portolanref04_Uses_ok γ _ (by first | exact rdK_app hv2_6 | exact hv2_6) f6) rfl rfl ?_
   simp -implicitDefEqProofs only [go_sem, seval, f1, hq]
   refine X_sr (lx_ok γ) ?_
   obtain ⟨x5, f7, h⟩ := bindE h
   simp -implicitDefEqProofs only [go_sem, seval, f1, hq]
   refine callV_eq (portolanref04_Sets_ok γ _ (by first | exact rdK_app hv2_6 | exact hv2_6) f7) rfl rfl ?_
   simp -implicitDefEqProofs only [go_sem, seval, f1, hq]
   refine X_seq ?_
   refine X_jq (J := fun as1 ob1 => ∃ (x6 : List Int), portolanref04_Ins.j2 a0 a2 x3 x6 = some r ∧ [(3, V.ref ob.length 0), (5, V.ref (ob.length + 1) 0), (7, V.ref (ob.length + 2) 0), (8, V.row (ob.length + 3) 0 0 (List.length x6))] = as1 ∧ ob ++ [some (O.box [v0_0]), some (O.box [vint .i64 a2.Op, vint .i64 a2.D, vint .i64 a2.A, vint .i64 a2.B, vint .i64 a2.N, vint .i64 a2.M, v2_6]), some (O.box [V.tr (.sl 1 false (List.map (eI .i64) x3.Kinds)), V.tr (.sl 1 false (List.map (eI .i64) x3.Base)), vint .i64 x3.Params, vint .i64 x3.Result, V.tr (.sl 1 false (List.map e_Block x3.Blocks))]), some (O.row 1 0 (List.map (eI .i64) x6))] = ob1) ?_ ?_
   ·rintro as1 ob1 ⟨x6, h, rfl, rfl⟩
    rw [portolanref04_Ins.j2] at h
    simp -implicitDefEqProofs only [go_sem, seval, f1, hq]
    refine X_seq ?_
    refine X_sr (lx_ok γ) ?_
    simp -implicitDefEqProofs only [go_sem, seval, f1, hq]
    refine X_jq (J := fun as1 ob1 => portolanref04_Ins.k1 a0 a2 x3 = some r ∧ [(3, V.ref ob.length 0), (5, V.ref (ob.length + 1) 0), (7, V.ref (ob.length + 2) 0)] = as1 ∧ ob ++ [some (O.box [v0_0]), some (O.box [vint .i64 a2.Op, vint .i64 a2.D, vint .i64 a2.A, vint .i64 a2.B, vint .i64 a2.N, vint .i64 a2.M, v2_6]), some (O.box [V.tr (.sl 1 false (List.map (eI .i64) x3.Kinds)), V.tr (.sl 1 false (List.map (eI .i64) x3.Base)), vint .i64 x3.Params, vint .i64 x3.Result, V.tr (.sl 1 false (List.map e_Block x3.Blocks))])] = ob1) ?_ ?_
    ·rintro as1 ob1 ⟨h, rfl, rfl⟩
     rw [portolanref04_Ins.k1] at h
     simp -implicitDefEqProofs only [go_sem, seval, f1, hq]
     refine X_sr (lx_ok γ) ?_
     obtain ⟨x8, f8, h⟩ := bindE h
     simp -implicitDefEqProofs only [go_sem, seval, f1, hq]
     refine callV_eq (portolanref04_Next_ok γ _ (by first | exact rdK_app hv2_6 | exact hv2_6) f8) rfl rfl ?_
     simp -implicitDefEqProofs only [go_sem, seval, f1, hq]
     refine X_seq ?_
     refine X_sr (lx_ok γ) ?_
     simp -implicitDefEqProofs only [go_sem, seval, f1, hq]
     refine X_jq (J := fun as1 ob1 => portolanref04_Ins.k2 a0 a2 = some r ∧ [(3, V.ref ob.length 0), (5, V.ref (ob.length + 1) 0)] = as1 ∧ ob ++ [some (O.box [v0_0]), some (O.box [vint .i64 a2.Op, vint .i64 a2.D, vint .i64 a2.A, vint .i64 a2.B, vint .i64 a2.N, vint .i64 a2.M, v2_6])] = ob1) ?_ ?_
     ·rintro as1 ob1 ⟨h, rfl, rfl⟩
      rw [portolanref04_Ins.k2] at h
      simp -implicitDefEqProofs only [go_sem, seval, f1, hq]
      refine X_seq ?_
      refine X_sr (lx_ok γ) ?_
      simp -implicitDefEqProofs only [go_sem, seval, f1, hq]
      refine X_block ?_
      refine X_sr (lx_ok γ) ?_
      simp -implicitDefEqProofs only [go_sem, seval, f1, hq]
      cases f9 : (a2.Op == 19)
      ·rw [if_neg (nF f9)] at h
       refine X_cond (lx_ok γ) ?_
       simp -implicitDefEqProofs only [go_sem, seval, f1, f9, hq]
       refine X_sr (lx_ok γ) ?_
       simp -implicitDefEqProofs only [go_sem, seval, f1, f9, hq]
       cases f10 : (a2.Op == 1)
       ·rw [if_neg (nF f10)] at h
        refine X_cond (lx_ok γ) ?_
        simp -implicitDefEqProofs only [go_sem, seval, f1, f9, f10, hq]
        refine X_sr (lx_ok γ) ?_
        simp -implicitDefEqProofs only [go_sem, seval, f1, f9, f10, hq]
        cases f11 : (a2.Op == 16)
        ·rw [if_neg (nF f11)] at h
         refine X_cond (lx_ok γ) ?_
         simp -implicitDefEqProofs only [go_sem, seval, f1, f9, f10, f11, hq]
         refine X_sr (lx_ok γ) ?_
         simp -implicitDefEqProofs only [go_sem, seval, f1, f9, f10, f11, hq]
         cases f12 : (a2.Op == 10)
         ·rw [if_neg (nF f12)] at h
          refine X_cond (lx_ok γ) ?_
          simp -implicitDefEqProofs only [go_sem, seval, f1, f9, f10, f11, f12, hq]
          refine X_seq ?_
          refine X_jq (J := fun as1 ob1 => ∃ (x14 : Bool), portolanref04_Ins.j3 a2 x14 = some r ∧ [(5, V.ref ob.length 0), (127, vbool x14)] = as1 ∧ ob ++ [some (O.box [vint .i64 a2.Op, vint .i64 a2.D, vint .i64 a2.A, vint .i64 a2.B, vint .i64 a2.N, vint .i64 a2.M, v2_6])] = ob1) ?_ ?_
          ·rintro as1 ob1 ⟨x14, h, rfl, rfl⟩
           rw [portolanref04_Ins.j3] at h
           simp -implicitDefEqProofs only [go_sem, seval, f1, f9, f10, f11, f12, hq]
           cases f13 : x14
           ·rw [if_neg (nF f13)] at h
            refine X_cond (lx_ok γ) ?_
            simp -implicitDefEqProofs only [go_sem, seval, f1, f9, f10, f11, f12, f13, hq]
            refine X_skip ?_
            try simp -implicitDefEqProofs only [go_sem]
            refine X_sr (lx_ok γ) ?_
            simp -implicitDefEqProofs only [go_sem, seval, f1, f9, f10, f11, f12, f13, hq]
            obtain rfl := sI h
            refine X_ret ?_
            simp -implicitDefEqProofs only [go_sem, seval, f1, f9, f10, f11, f12, f13, hq]
            exact Rt.mv0 (BaseR.refl hob) (by simp) (vS)
           ·rw [if_pos f13] at h
            refine X_cond (lx_ok γ) ?_
            simp -implicitDefEqProofs only [go_sem, seval, f1, f9, f10, f11, f12, f13, hq]
            refine X_sr (lx_ok γ) ?_
            obtain ⟨x15, f14, h⟩ := bindE h
            simp -implicitDefEqProofs only [go_sem, seval, f1, f9, f10, f11, f12, f13, hq]
            refine callV_eq (portolanref04_within_ok γ _  f14) rfl rfl ?_
            simp -implicitDefEqProofs only [go_sem, seval, f1, f9, f10, f11, f12, f13, hq]
            obtain rfl := sI h
            refine X_ret ?_
            simp -implicitDefEqProofs only [go_sem, seval, f1, f9, f10, f11, f12, f13, hq]
            exact Rt.mv0 (BaseR.refl hob) (by simp) (vS)
          ·refine X_sr (lx_ok γ) ?_
           simp -implicitDefEqProofs only [go_sem, seval, f1, f9, f10, f11, f12, hq]
           cases f15 : (a2.Op == 11)
           ·rw [if_neg (nF f15)] at h
            refine X_cond (lx_ok γ) ?_
            simp -implicitDefEqProofs only [go_sem, seval, f1, f9, f10, f11, f12, f15, hq]
            refine X_sr (lx_ok γ) ?_
            simp -implicitDefEqProofs only [go_sem, seval, f1, f9, f10, f11, f12, f15, hq]
            cases f16 : (a2.Op == 12)
            ·rw [if_neg (nF f16)] at h
             refine X_cond (lx_ok γ) ?_
             simp -implicitDefEqProofs only [go_sem, seval, f1, f9, f10, f11, f12, f15, f16, hq]
             refine X_sr (lx_ok γ) ?_
             simp -implicitDefEqProofs only [go_sem, seval, f1, f9, f10, f11, f12, f15, f16, hq]
             cases f17 : (a2.Op == 13)
             ·rw [if_neg (nF f17)] at h
              refine X_cond (lx_ok γ) ?_
              simp -implicitDefEqProofs only [go_sem, seval, f1, f9, f10, f11, f12, f15, f16, f17, hq]
              refine X_sr (lx_ok γ) ?_
              simp -implicitDefEqProofs only [go_sem, seval, f1, f9, f10, f11, f12, f15, f16, f17, hq]
              cases f18 : (a2.Op == 14)
              ·rw [if_neg (nF f18)] at h
               refine X_cond (lx_ok γ) ?_
               simp -implicitDefEqProofs only [go_sem, seval, f1, f9, f10, f11, f12, f15, f16, f17, f18, hq]
               refine X_reg (lx_ok γ) ?_
               simp -implicitDefEqProofs only [go_sem, seval, f1, f9, f10, f11, f12, f15, f16, f17, f18, hq]
               refine kJ_in ?_ ⟨(a2.Op == 15), h, rfl, rfl⟩
               exact To.mv [(1, 0)] (BaseR.refl hob) (by simp) (by decide) (by simp only [go_sem]; exact ⟨VM.refA (j := 1) (t := 0) rfl, vS⟩) ⟨⟨_, rfl, OM.box _ _ ⟨vS, vS, vS, vS, vS, vS, VM.self (by simpa using Bd.of_rdK hv2_6), trivial⟩⟩, trivial⟩
              ·rw [if_pos f18] at h
               refine X_cond (lx_ok γ) ?_
               simp -implicitDefEqProofs only [go_sem, seval, f1, f9, f10, f11, f12, f15, f16, f17, f18, hq]
               refine X_skip ?_
               try simp -implicitDefEqProofs only [go_sem]
               refine kJ_in ?_ ⟨true, h, rfl, rfl⟩
               exact To.mv [(1, 0)] (BaseR.refl hob) (by simp) (by decide) (by simp only [go_sem]; exact ⟨VM.refA (j := 1) (t := 0) rfl, vS⟩) ⟨⟨_, rfl, OM.box _ _ ⟨vS, vS, vS, vS, vS, vS, VM.self (by simpa using Bd.of_rdK hv2_6), trivial⟩⟩, trivial⟩
             ·rw [if_pos f17] at h
              refine X_cond (lx_ok γ) ?_
              simp -implicitDefEqProofs only [go_sem, seval, f1, f9, f10, f11, f12, f15, f16, f17, hq]
              refine X_skip ?_
              try simp -implicitDefEqProofs only [go_sem]
              refine kJ_in ?_ ⟨true, h, rfl, rfl⟩
              exact To.mv [(1, 0)] (BaseR.refl hob) (by simp) (by decide) (by simp only [go_sem]; exact ⟨VM.refA (j := 1) (t := 0) rfl, vS⟩) ⟨⟨_, rfl, OM.box _ _ ⟨vS, vS, vS, vS, vS, vS, VM.self (by simpa using Bd.of_rdK hv2_6), trivial⟩⟩, trivial⟩
            ·rw [if_pos f16] at h
             refine X_cond (lx_ok γ) ?_
             simp -implicitDefEqProofs only [go_sem, seval, f1, f9, f10, f11, f12, f15, f16, hq]
             refine X_skip ?_
             try simp -implicitDefEqProofs only [go_sem]
             refine kJ_in ?_ ⟨true, h, rfl, rfl⟩
             exact To.mv [(1, 0)] (BaseR.refl hob) (by simp) (by decide) (by simp only [go_sem]; exact ⟨VM.refA (j := 1) (t := 0) rfl, vS⟩) ⟨⟨_, rfl, OM.box _ _ ⟨vS, vS, vS, vS, vS, vS, VM.self (by simpa using Bd.of_rdK hv2_6), trivial⟩⟩, trivial⟩
           ·rw [if_pos f15] at h
            refine X_cond (lx_ok γ) ?_
            simp -implicitDefEqProofs only [go_sem, seval, f1, f9, f10, f11, f12, f15, hq]
            refine X_skip ?_
            try simp -implicitDefEqProofs only [go_sem]
            refine kJ_in ?_ ⟨true, h, rfl, rfl⟩
            exact To.mv [(1, 0)] (BaseR.refl hob) (by simp) (by decide) (by simp only [go_sem]; exact ⟨VM.refA (j := 1) (t := 0) rfl, vS⟩) ⟨⟨_, rfl, OM.box _ _ ⟨vS, vS, vS, vS, vS, vS, VM.self (by simpa using Bd.of_rdK hv2_6), trivial⟩⟩, trivial⟩
         ·rw [if_pos f12] at h
          refine X_cond (lx_ok γ) ?_
          simp -implicitDefEqProofs only [go_sem, seval, f1, f9, f10, f11, f12, hq]
          refine X_sr (lx_ok γ) ?_
          obtain ⟨x16, f19, h⟩ := bindE h
          simp -implicitDefEqProofs only [go_sem, seval, f1, f9, f10, f11, f12, hq]
          refine callV_eq (portolanref04_within_ok γ _  f19) rfl rfl ?_
          cases f20 : x16
          ·rw [if_neg (nF f20)] at h
           simp -implicitDefEqProofs only [go_sem, seval, f1, f9, f10, f11, f12, f20, hq]
           obtain rfl := sI h
           refine X_ret ?_
           simp -implicitDefEqProofs only [go_sem, seval, f1, f9, f10, f11, f12, f20, hq]
           exact Rt.mv0 (BaseR.refl hob) (by simp) (vS)
          ·rw [if_pos f20] at h
           obtain ⟨x17, f21, h⟩ := bindE h
           simp -implicitDefEqProofs only [go_sem, seval, f1, f9, f10, f11, f12, f20, hq]
           refine callV_eq (portolanref04_within_ok γ _  f21) rfl rfl ?_
           simp -implicitDefEqProofs only [go_sem, seval, f1, f9, f10, f11, f12, f20, hq]
           obtain rfl := sI h
           refine X_ret ?_
           simp -implicitDefEqProofs only [go_sem, seval, f1, f9, f10, f11, f12, f20, hq]
           exact Rt.mv0 (BaseR.refl hob) (by simp) (vS)
        ·rw [if_pos f11] at h
         refine X_cond (lx_ok γ) ?_
         simp -implicitDefEqProofs only [go_sem, seval, f1, f9, f10, f11, hq]
         refine X_sr (lx_ok γ) ?_
         obtain ⟨x18, f22, h⟩ := bindE h
         simp -implicitDefEqProofs only [go_sem, seval, f1, f9, f10, f11, hq]
         refine callV_eq (portolanref04_within_ok γ _  f22) rfl rfl ?_
         simp -implicitDefEqProofs only [go_sem, seval, f1, f9, f10, f11, hq]
         obtain rfl := sI h
         refine X_ret ?_
         simp -implicitDefEqProofs only [go_sem, seval, f1, f9, f10, f11, hq]
         exact Rt.mv0 (BaseR.refl hob) (by simp) (vS)
       ·rw [if_pos f10] at h
        refine X_cond (lx_ok γ) ?_
        simp -implicitDefEqProofs only [go_sem, seval, f1, f9, f10, hq]
        refine X_sr (lx_ok γ) ?_
        obtain ⟨x19, f23, h⟩ := bindE h
        simp -implicitDefEqProofs only [go_sem, seval, f1, f9, f10, hq]
        refine callV_eq (portolanref04_within_ok γ _  f23) rfl rfl ?_
        simp -implicitDefEqProofs only [go_sem, seval, f1, f9, f10, hq]
        obtain rfl := sI h
        refine X_ret ?_
        simp -implicitDefEqProofs only [go_sem, seval, f1, f9, f10, hq]
        exact Rt.mv0 (BaseR.refl hob) (by simp) (vS)
      ·rw [if_pos f9] at h
       refine X_cond (lx_ok γ) ?_
       simp -implicitDefEqProofs only [go_sem, seval, f1, f9, hq]
       refine X_seq ?_
       refine X_drawn (lx_ok γ) [[], [0], [], [2], [2, 3], [2, 3, 4], [0, 1, 2, 3, 4, 5], [0, 1, 2, 3, 4, 5, 6], [0, 1, 2, 3, 4, 5, 6, 7], [0, 1, 2, 3, 4, 5, 6, 7, 8], [0, 1, 2, 3, 4, 5, 6, 7, 8, 9], [0, 1, 2, 3, 4, 5, 6, 7], [0, 1, 2, 3, 4, 5, 6, 7, 11], [0, 1, 2, 3, 4, 5, 6, 7], [0, 1, 2, 3, 4, 5, 6, 7, 13], [0, 1, 2, 3, 4, 5, 6, 7, 11, 12, 13, 14], [0, 1, 2, 3, 4, 5, 6, 7, 11, 12, 13, 14, 15], [0, 1, 2, 3, 4, 5, 6, 7, 11, 12, 13, 14, 15, 16], [0, 1, 2, 3, 4, 5, 6, 7, 8, 9, 10, 11, 12, 13, 14, 15, 16, 17], [0, 1, 2, 3, 4, 5, 6, 7, 8, 9, 10, 11, 12, 13, 14, 15, 16, 17, 18], [0, 1, 2, 3, 4, 5, 6, 7, 8, 9, 10, 11, 12, 13, 14, 15, 16, 17, 18, 19]] (fun i => match i with | _ => false) (by kernel_rfl) ?_
       obtain ⟨x20, f24, h⟩ := bindE h
       try simp -implicitDefEqProofs only [go_sem, seval, f1, f9, hq, cmpr, List.getD_cons_zero, List.getD_cons_succ, List.contains_cons, List.contains_nil, Nat.reduceBEq, Bool.false_or, Bool.or_false, Bool.true_or, Bool.or_true, beq_self_eq_true]
       refine callV_eq (portolanref04_within_ok γ _  f24) rfl rfl ?_
       cases f25 : x20
       ·rw [if_neg (nF f25)] at h
        try simp -implicitDefEqProofs only [go_sem, seval, f1, f9, f25, hq, cmpr, List.getD_cons_zero, List.getD_cons_succ, List.contains_cons, List.contains_nil, Nat.reduceBEq, Bool.false_or, Bool.or_false, Bool.true_or, Bool.or_true, beq_self_eq_true]
        obtain rfl := sI h
        refine X_ret ?_
        simp -implicitDefEqProofs only [go_sem, seval, f1, f9, f25, hq]
        exact Rt.mv0 (BaseR.refl hob) (by simp) (vS)
       ·rw [if_pos f25] at h
        obtain ⟨x21, f26, h⟩ := bindE h
        obtain ⟨f27, f28, f29⟩ := ixL_some f26
        try simp only [Int.toNat_natCast, Int.reduceToNat] at f29
        try simp -implicitDefEqProofs only [go_sem, seval, f1, f9, f25, hq, f27, f28, f29, cmpr, List.getD_cons_zero, List.getD_cons_succ, List.contains_cons, List.contains_nil, Nat.reduceBEq, Bool.false_or, Bool.or_false, Bool.true_or, Bool.or_true, beq_self_eq_true]
        obtain rfl := sI h
        refine X_ret ?_
        simp -implicitDefEqProofs only [go_sem, seval, f1, f9, f25, hq, f27, f28, f29]
        exact Rt.mv0 (BaseR.refl hob) (by simp) (vS)
     ·refine X_block ?_
      obtain ⟨lr2, hl2, hk2, hr2⟩ := aft2 h
      refine X_forN hl2 (fun (i2 : Nat) (s : Unit) as1 ob1 => [(3, V.ref ob.length 0), (5, V.ref (ob.length + 1) 0), (7, V.ref (ob.length + 2) 0), (12, V.row (ob.length + 3) 0 0 (List.length x8)), (13, vint .i64 (i2 : Int))] = as1 ∧ ob ++ [some (O.box [v0_0]), some (O.box [vint .i64 a2.Op, vint .i64 a2.D, vint .i64 a2.A, vint .i64 a2.B, vint .i64 a2.N, vint .i64 a2.M, v2_6]), some (O.box [V.tr (.sl 1 false (List.map (eI .i64) x3.Kinds)), V.tr (.sl 1 false (List.map (eI .i64) x3.Base)), vint .i64 x3.Params, vint .i64 x3.Result, V.tr (.sl 1 false (List.map e_Block x3.Blocks))]), some (O.row 1 0 (List.map (eI .i64) x8))] = ob1) ⟨_, _, ?_, rfl, rfl⟩ ?_ ?_
      ·exact To.mv [(0, 0), (1, 0), (2, 0), (3, 0)] (BaseR.refl hob) (by simp) (by decide) (by simp only [go_sem]; exact ⟨VM.refA (j := 0) (t := 0) rfl, VM.refA (j := 1) (t := 1) rfl, VM.refA (j := 2) (t := 2) rfl, VM.rowL (j := 3) (t := 3) rfl (by first | rfl | simp | simp_all | omega), VM.eqv (by simp) (by simp)⟩) ⟨⟨_, rfl, OM.box _ _ ⟨VM.self (by simpa using Bd.of_rdK hv0_0), trivial⟩⟩, ⟨_, rfl, OM.box _ _ ⟨vS, vS, vS, vS, vS, vS, VM.self (by simpa using Bd.of_rdK hv2_6), trivial⟩⟩, ⟨_, rfl, OM.box _ _ ⟨vS, vS, vS, vS, vS, trivial⟩⟩, ⟨_, rfl, OM.row' (by first | rfl | simp_all)⟩, trivial⟩
      ·rintro i2 _ o2 hi2 hw2 h ho2 as1 ob1 ⟨rfl, rfl⟩
       rw [portolanref04_Ins.b2] at h
       refine X_seq ?_
       refine X_sr (lx_ok γ) ?_
       simp -implicitDefEqProofs only [go_sem, seval, f1, hi2, hq]
       refine X_cond (lx_ok γ) ?_
       simp -implicitDefEqProofs only [go_sem, seval, f1, hi2, hq]
       refine X_skip ?_
       try simp -implicitDefEqProofs only [go_sem]
       refine X_seq ?_
       refine X_block ?_
       refine X_seq ?_
       refine X_drawn (lx_ok γ) [[], [], [0, 1], [0, 1, 2], [], [4], [4, 5], [4, 5, 6], [0, 1, 2, 3, 4, 5, 6, 7], [0, 1, 2, 3, 4, 5, 6, 7, 8]] (fun i => match i with | _ => false) (by kernel_rfl) ?_
       obtain ⟨x22, f30, h⟩ := bindE h
       obtain ⟨f31, f32⟩ := ixL_nat f30
       have f33 : (0 : Int) ≤ (i2 : Int) := Int.natCast_nonneg _
       obtain ⟨x23, f34, h⟩ := bindE h
       try simp -implicitDefEqProofs only [go_sem, seval, f1, hi2, hq, f31, f32, f33, cmpr, List.getD_cons_zero, List.getD_cons_succ, List.contains_cons, List.contains_nil, Nat.reduceBEq, Bool.false_or, Bool.or_false, Bool.true_or, Bool.or_true, beq_self_eq_true]
       refine callV_eq (portolanref04_within_ok γ _  f34) rfl rfl ?_
       try simp -implicitDefEqProofs only [go_sem, seval, f1, hi2, hq, f31, f32, f33, cmpr, List.getD_cons_zero, List.getD_cons_succ, List.contains_cons, List.contains_nil, Nat.reduceBEq, Bool.false_or, Bool.or_false, Bool.true_or, Bool.or_true, beq_self_eq_true]
       cases f35 : x23
       ·rw [if_neg (nF f35)] at h
        refine X_cond (lx_ok γ) ?_
        simp -implicitDefEqProofs only [go_sem, seval, f1, hi2, f35, hq, f31, f32, f33]
        refine X_sr (lx_ok γ) ?_
        simp -implicitDefEqProofs only [go_sem, seval, f1, hi2, f35, hq]
        obtain rfl := sI h
        have h := hr2 _ (ho2 (fun _ hs => nomatch hs))
        obtain rfl := sI h
        refine X_ret ?_
        simp -implicitDefEqProofs only [go_sem, seval, f1, hi2, f35, hq]
        exact Rt.mv0 (BaseR.refl hob) (by simp) (vS)
       ·rw [if_pos f35] at h
        refine X_cond (lx_ok γ) ?_
        simp -implicitDefEqProofs only [go_sem, seval, f1, hi2, f35, hq, f31, f32, f33]
        refine X_skip ?_
        try simp -implicitDefEqProofs only [go_sem]
        refine X_reg (lx_ok γ) ?_
        obtain rfl := sI h
        simp -implicitDefEqProofs only [go_sem, seval, f1, hi2, f35, hq]
        refine kR_in rfl ?_ ⟨rfl, rfl⟩
        exact To.mv [(0, 0), (1, 0), (2, 0), (3, 0)] (BaseR.refl hob) (by simp) (by decide) (by simp only [go_sem]; exact ⟨VM.refA (j := 0) (t := 0) rfl, VM.refA (j := 1) (t := 1) rfl, VM.refA (j := 2) (t := 2) rfl, VM.rowL (j := 3) (t := 3) rfl (by first | rfl | simp | simp_all | omega), VM.eqv (by rw [hw2]) (by simp)⟩) ⟨⟨_, rfl, OM.box _ _ ⟨VM.self (by simpa using Bd.of_rdK hv0_0), trivial⟩⟩, ⟨_, rfl, OM.box _ _ ⟨vS, vS, vS, vS, vS, vS, VM.self (by simpa using Bd.of_rdK hv2_6), trivial⟩⟩, ⟨_, rfl, OM.box _ _ ⟨vS, vS, vS, vS, vS, trivial⟩⟩, ⟨_, rfl, OM.row' (by first | rfl | simp_all)⟩, trivial⟩
      ·rintro i2 _ hi2 hn2 as1 ob1 ⟨rfl, rfl⟩
       refine X_seq ?_
       refine X_sr (lx_ok γ) ?_
       simp -implicitDefEqProofs only [go_sem, seval, f1, hi2, hq]
       refine X_cond (lx_ok γ) ?_
       simp -implicitDefEqProofs only [go_sem, seval, f1, hi2, hq]
       have h := hk2 _ (.inl hn2)
       refine X_exit ?_
       try simp -implicitDefEqProofs only [go_sem, ↓reduceIte, Nat.reduceEqDiff, reduceCtorEq]
       refine kJ_in ?_ ⟨h, rfl, rfl⟩
       exact To.mv [(0, 0), (1, 0)] (BaseR.refl hob) (by simp) (by decide) (by simp only [go_sem]; exact ⟨VM.refA (j := 0) (t := 0) rfl, VM.refA (j := 1) (t := 1) rfl⟩) ⟨⟨_, rfl, OM.box _ _ ⟨VM.self (by simpa using Bd.of_rdK hv0_0), trivial⟩⟩, ⟨_, rfl, OM.box _ _ ⟨vS, vS, vS, vS, vS, vS, VM.self (by simpa using Bd.of_rdK hv2_6), trivial⟩⟩, trivial⟩
    ·refine X_block ?_
     obtain ⟨lr1, hl1, hk1, hr1⟩ := aft2 h
     refine X_forN hl1 (fun (i1 : Nat) (s : Unit) as1 ob1 => [(3, V.ref ob.length 0), (5, V.ref (ob.length + 1) 0), (7, V.ref (ob.length + 2) 0), (8, V.row (ob.length + 3) 0 0 (List.length x6)), (11, vint .i64 (i1 : Int))] = as1 ∧ ob ++ [some (O.box [v0_0]), some (O.box [vint .i64 a2.Op, vint .i64 a2.D, vint .i64 a2.A, vint .i64 a2.B, vint .i64 a2.N, vint .i64 a2.M, v2_6]), some (O.box [V.tr (.sl 1 false (List.map (eI .i64) x3.Kinds)), V.tr (.sl 1 false (List.map (eI .i64) x3.Base)), vint .i64 x3.Params, vint .i64 x3.Result, V.tr (.sl 1 false (List.map e_Block x3.Blocks))]), some (O.row 1 0 (List.map (eI .i64) x6))] = ob1) ⟨_, _, ?_, rfl, rfl⟩ ?_ ?_
     ·exact To.mv [(0, 0), (1, 0), (2, 0), (3, 0)] (BaseR.refl hob) (by simp) (by decide) (by simp only [go_sem]; exact ⟨VM.refA (j := 0) (t := 0) rfl, VM.refA (j := 1) (t := 1) rfl, VM.refA (j := 2) (t := 2) rfl, VM.rowL (j := 3) (t := 3) rfl (by first | rfl | simp | simp_all | omega), VM.eqv (by simp) (by simp)⟩) ⟨⟨_, rfl, OM.box _ _ ⟨VM.self (by simpa using Bd.of_rdK hv0_0), trivial⟩⟩, ⟨_, rfl, OM.box _ _ ⟨vS, vS, vS, vS, vS, vS, VM.self (by simpa using Bd.of_rdK hv2_6), trivial⟩⟩, ⟨_, rfl, OM.box _ _ ⟨vS, vS, vS, vS, vS, trivial⟩⟩, ⟨_, rfl, OM.row' (by first | rfl | simp_all)⟩, trivial⟩
     ·rintro i1 _ o1 hi1 hw1 h ho1 as1 ob1 ⟨rfl, rfl⟩
      rw [portolanref04_Ins.b1] at h
      refine X_seq ?_
      refine X_sr (lx_ok γ) ?_
      simp -implicitDefEqProofs only [go_sem, seval, f1, hi1, hq]
      refine X_cond (lx_ok γ) ?_
      simp -implicitDefEqProofs only [go_sem, seval, f1, hi1, hq]
      refine X_skip ?_
      try simp -implicitDefEqProofs only [go_sem]
      refine X_seq ?_
      refine X_block ?_
      refine X_seq ?_
      refine X_drawn (lx_ok γ) [[], [], [0, 1], [0, 1, 2], [], [4], [4, 5], [4, 5, 6], [0, 1, 2, 3, 4, 5, 6, 7], [0, 1, 2, 3, 4, 5, 6, 7, 8]] (fun i => match i with | _ => false) (by kernel_rfl) ?_
      obtain ⟨x24, f36, h⟩ := bindE h
      obtain ⟨f37, f38⟩ := ixL_nat f36
      have f39 : (0 : Int) ≤ (i1 : Int) := Int.natCast_nonneg _
      obtain ⟨x25, f40, h⟩ := bindE h
      try simp -implicitDefEqProofs only [go_sem, seval, f1, hi1, hq, f37, f38, f39, cmpr, List.getD_cons_zero, List.getD_cons_succ, List.contains_cons, List.contains_nil, Nat.reduceBEq, Bool.false_or, Bool.or_false, Bool.true_or, Bool.or_true, beq_self_eq_true]
      refine callV_eq (portolanref04_within_ok γ _  f40) rfl rfl ?_
      try simp -implicitDefEqProofs only [go_sem, seval, f1, hi1, hq, f37, f38, f39, cmpr, List.getD_cons_zero, List.getD_cons_succ, List.contains_cons, List.contains_nil, Nat.reduceBEq, Bool.false_or, Bool.or_false, Bool.true_or, Bool.or_true, beq_self_eq_true]
      cases f41 : x25
      ·rw [if_neg (nF f41)] at h
       refine X_cond (lx_ok γ) ?_
       simp -implicitDefEqProofs only [go_sem, seval, f1, hi1, f41, hq, f37, f38, f39]
       refine X_sr (lx_ok γ) ?_
       simp -implicitDefEqProofs only [go_sem, seval, f1, hi1, f41, hq]
       obtain rfl := sI h
       have h := hr1 _ (ho1 (fun _ hs => nomatch hs))
       obtain rfl := sI h
       refine X_ret ?_
       simp -implicitDefEqProofs only [go_sem, seval, f1, hi1, f41, hq]
       exact Rt.mv0 (BaseR.refl hob) (by simp) (vS)
      ·rw [if_pos f41] at h
       refine X_cond (lx_ok γ) ?_
       simp -implicitDefEqProofs only [go_sem, seval, f1, hi1, f41, hq, f37, f38, f39]
       refine X_skip ?_
       try simp -implicitDefEqProofs only [go_sem]
       refine X_reg (lx_ok γ) ?_
       obtain rfl := sI h
       simp -implicitDefEqProofs only [go_sem, seval, f1, hi1, f41, hq]
       refine kR_in rfl ?_ ⟨rfl, rfl⟩
       exact To.mv [(0, 0), (1, 0), (2, 0), (3, 0)] (BaseR.refl hob) (by simp) (by decide) (by simp only [go_sem]; exact ⟨VM.refA (j := 0) (t := 0) rfl, VM.refA (j := 1) (t := 1) rfl, VM.refA (j := 2) (t := 2) rfl, VM.rowL (j := 3) (t := 3) rfl (by first | rfl | simp | simp_all | omega), VM.eqv (by rw [hw1]) (by simp)⟩) ⟨⟨_, rfl, OM.box _ _ ⟨VM.self (by simpa using Bd.of_rdK hv0_0), trivial⟩⟩, ⟨_, rfl, OM.box _ _ ⟨vS, vS, vS, vS, vS, vS, VM.self (by simpa using Bd.of_rdK hv2_6), trivial⟩⟩, ⟨_, rfl, OM.box _ _ ⟨vS, vS, vS, vS, vS, trivial⟩⟩, ⟨_, rfl, OM.row' (by first | rfl | simp_all)⟩, trivial⟩
     ·rintro i1 _ hi1 hn1 as1 ob1 ⟨rfl, rfl⟩
      refine X_seq ?_
      refine X_sr (lx_ok γ) ?_
      simp -implicitDefEqProofs only [go_sem, seval, f1, hi1, hq]
      refine X_cond (lx_ok γ) ?_
      simp -implicitDefEqProofs only [go_sem, seval, f1, hi1, hq]
      have h := hk1 _ (.inl hn1)
      refine X_exit ?_
      try simp -implicitDefEqProofs only [go_sem, ↓reduceIte, Nat.reduceEqDiff, reduceCtorEq]
      refine kJ_in ?_ ⟨h, rfl, rfl⟩
      exact To.mv [(0, 0), (1, 0), (2, 0)] (BaseR.refl hob) (by simp) (by decide) (by simp only [go_sem]; exact ⟨VM.refA (j := 0) (t := 0) rfl, VM.refA (j := 1) (t := 1) rfl, VM.refA (j := 2) (t := 2) rfl⟩) ⟨⟨_, rfl, OM.box _ _ ⟨VM.self (by simpa using Bd.of_rdK hv0_0), trivial⟩⟩, ⟨_, rfl, OM.box _ _ ⟨vS, vS, vS, vS, vS, vS, VM.self (by simpa using Bd.of_rdK hv2_6), trivial⟩⟩, ⟨_, rfl, OM.box _ _ ⟨vS, vS, vS, vS, vS, trivial⟩⟩, trivial⟩
   ·refine X_sr (lx_ok γ) ?_
    simp -implicitDefEqProofs only [go_sem, seval, f1, hq]
    cases f42 : x5.2
    ·rw [if_neg (nF f42)] at h
     refine X_cond (lx_ok γ) ?_
     simp -implicitDefEqProofs only [go_sem, seval, f1, f42, hq]
     refine X_skip ?_
     try simp -implicitDefEqProofs only [go_sem]
     refine kJ_in ?_ ⟨x4, h, rfl, rfl⟩
     exact To.mv [(0, 0), (1, 0), (2, 0), (3, 0)] (BaseR.refl hob) (by simp) (by decide) (by simp only [go_sem]; exact ⟨VM.refA (j := 0) (t := 0) rfl, VM.refA (j := 1) (t := 1) rfl, VM.refA (j := 2) (t := 2) rfl, VM.rowL (j := 3) (t := 3) rfl (by first | rfl | simp | simp_all | omega)⟩) ⟨⟨_, rfl, OM.box _ _ ⟨VM.self (by simpa using Bd.of_rdK hv0_0), trivial⟩⟩, ⟨_, rfl, OM.box _ _ ⟨vS, vS, vS, vS, vS, vS, VM.self (by simpa using Bd.of_rdK hv2_6), trivial⟩⟩, ⟨_, rfl, OM.box _ _ ⟨vS, vS, vS, vS, vS, trivial⟩⟩, ⟨_, rfl, OM.row' (by first | rfl | simp_all)⟩, trivial⟩
    ·rw [if_pos f42] at h
     refine X_cond (lx_ok γ) ?_
     simp -implicitDefEqProofs only [go_sem, seval, f1, f42, hq]
     refine X_reg (lx_ok γ) ?_
     obtain ⟨x26, f43, h⟩ := bindE h
     have f44 : List.length x26 * 8 ≤ 140737488355328 := by have := (appL_some f43).1; rw [(appL_some f43).2]; simpa using this
     have f45 : List.map (eI .i64) x4 ++ [[.lit (.int .i64 x5.1)]] = List.map (eI .i64) x26 := by rw [(appL_some f43).2]; simp [eB, eI, eS]
     have f46 : List.length x4 + 1 = List.length x26 := by rw [(appL_some f43).2]; simp
     simp -implicitDefEqProofs only [go_sem, seval, f1, f42, hq, f44, f45, f46]
     refine kJ_in ?_ ⟨x26, h, rfl, rfl⟩
     exact To.mv [(0, 0), (1, 0), (2, 0), (3, 1)] (BaseR.refl hob) (by simp) (by decide) (by simp only [go_sem]; exact ⟨VM.refA (j := 0) (t := 0) rfl, VM.refA (j := 1) (t := 1) rfl, VM.refA (j := 2) (t := 2) rfl, VM.rowL (j := 3) (t := 3) rfl (by first | rfl | simp | simp_all | omega)⟩) ⟨⟨_, rfl, OM.box _ _ ⟨VM.self (by simpa using Bd.of_rdK hv0_0), trivial⟩⟩, ⟨_, rfl, OM.box _ _ ⟨vS, vS, vS, vS, vS, vS, VM.self (by simpa using Bd.of_rdK hv2_6), trivial⟩⟩, ⟨_, rfl, OM.box _ _ ⟨vS, vS, vS, vS, vS, trivial⟩⟩, ⟨_, rfl, OM.row' (by first | rfl | simp_all)⟩, trivial⟩
  ·rw [if_pos f1] at h
   refine X_cond (lx_ok γ) ?_
   simp -implicitDefEqProofs only [go_sem, seval, f1, hq]
   refine X_sr (lx_ok γ) ?_
   simp -implicitDefEqProofs only [go_sem, seval, f1, hq]
   obtain rfl := sI h
   refine X_ret ?_
   simp -implicitDefEqProofs only [go_sem, seval, f1, hq]
   exact Rt.mv0 (BaseR.refl hob) (by simp) (vS)
 ·refine X_reg (lx_ok γ) ?_
  obtain ⟨x27, f47, h⟩ := bindE h
  simp -implicitDefEqProofs only [go_sem, seval, hq]
  refine callV_eq (portolanref04_within_ok γ _  f47) rfl rfl ?_
  cases f48 : x27
  ·rw [if_neg (nF f48)] at h
   simp -implicitDefEqProofs only [go_sem, seval, f48, hq]
   refine kJ_in ?_ ⟨true, h, rfl, rfl⟩
   exact To.mv [(0, 0), (1, 0)] (BaseR.refl hob) (by simp) (by decide) (by simp only [go_sem]; exact ⟨vS, VM.refA (j := 0) (t := 0) rfl, VM.refA (j := 1) (t := 1) rfl, vS⟩) ⟨⟨_, rfl, OM.box _ _ ⟨VM.self (by simpa using Bd.of_rdK hv0_0), trivial⟩⟩, ⟨_, rfl, OM.box _ _ ⟨vS, vS, vS, vS, vS, vS, VM.self (by simpa using Bd.of_rdK hv2_6), trivial⟩⟩, trivial⟩
  ·rw [if_pos f48] at h
   obtain ⟨x28, f49, h⟩ := bindE h
   simp -implicitDefEqProofs only [go_sem, seval, f48, hq]
   refine callV_eq (portolanref03_Parts_ok γ _  f49) rfl rfl ?_
   cases f50 : (ByteArray.toList x28 == ByteArray.toList ({ data := #[] } : ByteArray))
   ·rw [if_neg (nF f50)] at h
    obtain ⟨x29, f51, h⟩ := bindE h
    simp -implicitDefEqProofs only [go_sem, seval, f48, f50, hq]
    refine callV_eq (portolanref04_bare_ok γ _ (by first | exact rdK_app hv2_6 | exact hv2_6) f51) rfl rfl ?_
    simp -implicitDefEqProofs only [go_sem, seval, f48, f50, hq]
    refine kJ_in ?_ ⟨(!x29), h, rfl, rfl⟩
    exact To.mv [(0, 0), (1, 0)] (BaseR.refl hob) (by simp) (by decide) (by simp only [go_sem]; exact ⟨vS, VM.refA (j := 0) (t := 0) rfl, VM.refA (j := 1) (t := 1) rfl, vS⟩) ⟨⟨_, rfl, OM.box _ _ ⟨VM.self (by simpa using Bd.of_rdK hv0_0), trivial⟩⟩, ⟨_, rfl, OM.box _ _ ⟨vS, vS, vS, vS, vS, vS, VM.self (by simpa using Bd.of_rdK hv2_6), trivial⟩⟩, trivial⟩
   ·rw [if_pos f50] at h
    simp -implicitDefEqProofs only [go_sem, seval, f48, f50, hq]
    refine kJ_in ?_ ⟨true, h, rfl, rfl⟩
    exact To.mv [(0, 0), (1, 0)] (BaseR.refl hob) (by simp) (by decide) (by simp only [go_sem]; exact ⟨vS, VM.refA (j := 0) (t := 0) rfl, VM.refA (j := 1) (t := 1) rfl, vS⟩) ⟨⟨_, rfl, OM.box _ _ ⟨VM.self (by simpa using Bd.of_rdK hv0_0), trivial⟩⟩, ⟨_, rfl, OM.box _ _ ⟨vS, vS, vS, vS, vS, vS, VM.self (by simpa using Bd.of_rdK hv2_6), trivial⟩⟩, trivial⟩
end Go.Pf
end
section
set_option maxRecDepth 100000
namespace Go.Pf
open Go Go.Ab Go.Pp Go.Proofs Go.Proofs.S04
attribute [local go_sem] Lxτ Lxγ gam0 Int.toNat_natCast List.append_eq List.cons_append List.nil_append tau3 tau4 tau22 tau24 tau28 tau29 tau31 tau35 tau42 tau44 eI eB eS e_Ins e_Block e_Func e_Prog e_code_writer e_code_reader e_Edge
set_option maxHeartbeats 1000000 in
theorem portolanref04_Check_ok (γ : GT) (ob : OT) {a0 : Prog} {v0_0 : V} (hv0_0 : rdK (getO ob) 5 v0_0 = some (List.map e_Func a0.Funcs)) {r : Int} (h : portolanref04_Check a0 = some r) :
  Valid (Lx γ) 14 [V.agg [v0_0]] ob (vint .i64 r) ob := by
 refine valid_X (lx_ok γ) (fn := Tryd.f14) (rs := [.tmp 2]) Tryd.func14 (by kernel_rfl) rfl rfl Tryd.ntmps14 rfl (by simp) fun hb hob => ?_
 have hq := rd4 hv0_0
 rw [portolanref04_Check] at h
 refine X_sr (lx_ok γ) ?_
 simp -implicitDefEqProofs only [go_sem, seval, hq]
 refine X_seq ?_
 refine X_seq ?_
 refine X_jq (J := fun as1 ob1 => ∃ (x2 : Bool), portolanref04_Check.j1 a0 x2 = some r ∧ [(1, V.ref ob.length 0), (27, vbool x2)] = as1 ∧ ob ++ [some (O.box [v0_0])] = ob1) ?_ ?_
 ·rintro as1 ob1 ⟨x2, h, rfl, rfl⟩
  rw [portolanref04_Check.j1] at h
  simp -implicitDefEqProofs only [go_sem, seval, hq]
  cases f1 : x2
  ·rw [if_neg (nF f1)] at h
   refine X_cond (lx_ok γ) ?_
   simp -implicitDefEqProofs only [go_sem, seval, f1, hq]
   refine X_skip ?_
   try simp -implicitDefEqProofs only [go_sem]
   refine X_seq ?_
   refine X_sr (lx_ok γ) ?_
   simp -implicitDefEqProofs only [go_sem, seval, f1, hq]
   refine X_jq (J := fun as1 ob1 => portolanref04_Check.k1 = some r ∧ [] = as1 ∧ ob = ob1) ?_ ?_
   ·rintro as1 ob1 ⟨h, rfl, rfl⟩
    rw [portolanref04_Check.k1] at h
    simp -implicitDefEqProofs only [go_sem, seval, f1, hq]
    refine X_sr (lx_ok γ) ?_
    simp -implicitDefEqProofs only [go_sem, seval, f1, hq]
    obtain rfl := sI h
    refine X_ret ?_
    simp -implicitDefEqProofs only [go_sem, seval, f1, hq]
    exact Rt.mv1 (BaseR.refl hob) (by simp) (vS)
   ·refine X_block ?_
    obtain ⟨lr1, hl1, hk1, hr1⟩ := aft2 h
    refine X_forN hl1 (fun (i1 : Nat) (s : Unit) as1 ob1 => [(1, V.ref ob.length 0), (3, vint .i64 (i1 : Int))] = as1 ∧ ob ++ [some (O.box [v0_0])] = ob1) ⟨_, _, ?_, rfl, rfl⟩ ?_ ?_
    ·exact To.mv [(0, 0)] (BaseR.refl hob) (by simp) (by decide) (by simp only [go_sem]; exact ⟨VM.refA (j := 0) (t := 0) rfl, VM.eqv (by simp) (by simp)⟩) ⟨⟨_, rfl, OM.box _ _ ⟨VM.self (by simpa using Bd.of_rdK hv0_0), trivial⟩⟩, trivial⟩
    ·rintro i1 _ o1 hi1 hw1 h ho1 as1 ob1 ⟨rfl, rfl⟩
     rw [portolanref04_Check.b1] at h
     refine X_seq ?_
     refine X_sr (lx_ok γ) ?_
     simp -implicitDefEqProofs only [go_sem, seval, f1, hi1, hq]
     refine X_cond (lx_ok γ) ?_
     simp -implicitDefEqProofs only [go_sem, seval, f1, hi1, hq]
     refine X_skip ?_
     try simp -implicitDefEqProofs only [go_sem]
     refine X_seq ?_
     refine X_block ?_
     refine X_sr (lx_ok γ) ?_
     obtain ⟨x4, f2, h⟩ := bindE h
     obtain ⟨f3, f4⟩ := ixL_nat f2
     have f5 : (0 : Int) ≤ (i1 : Int) := Int.natCast_nonneg _
     simp -implicitDefEqProofs only [go_sem, seval, f1, hi1, hq, f3, f4, f5]
     refine X_seq ?_
     refine X_sr (lx_ok γ) ?_
     obtain ⟨x5, f6, h⟩ := bindE h
     simp -implicitDefEqProofs only [go_sem, seval, f1, hi1, hq]
     refine callV_eq (portolanref04_Func_ok γ _ (by simp -implicitDefEqProofs only [go_sem, seval, f1, hi1, hq]; try rfl) (by simp -implicitDefEqProofs only [go_sem, seval, f1, hi1, hq]; try rfl) (by simp -implicitDefEqProofs only [go_sem, seval, f1, hi1, hq]; try rfl) f6) rfl rfl ?_
     simp -implicitDefEqProofs only [go_sem, seval, f1, hi1, hq]
     cases f7 : x5
     ·rw [if_neg (nF f7)] at h
      refine X_cond (lx_ok γ) ?_
      simp -implicitDefEqProofs only [go_sem, seval, f1, hi1, f7, hq]
      refine X_sr (lx_ok γ) ?_
      simp -implicitDefEqProofs only [go_sem, seval, f1, hi1, f7, hq]
      obtain rfl := sI h
      have h := hr1 _ (ho1 (fun _ hs => nomatch hs))
      obtain rfl := sI h
      refine X_ret ?_
      simp -implicitDefEqProofs only [go_sem, seval, f1, hi1, f7, hq]
      exact Rt.mv0 (BaseR.refl hob) (by simp) (vS)
     ·rw [if_pos f7] at h
      refine X_cond (lx_ok γ) ?_
      simp -implicitDefEqProofs only [go_sem, seval, f1, hi1, f7, hq]
      refine X_skip ?_
      try simp -implicitDefEqProofs only [go_sem]
      refine X_sr (lx_ok γ) ?_
      simp -implicitDefEqProofs only [go_sem, seval, f1, hi1, f7, hq]
      refine X_jq (J := fun as1 ob1 => portolanref04_Check.k2 = some o1 ∧ [(1, V.ref ob.length 0), (3, vint .i64 (i1 : Int))] = as1 ∧ ob ++ [some (O.box [v0_0])] = ob1) ?_ ?_
      ·rintro as1 ob1 ⟨h, rfl, rfl⟩
       rw [portolanref04_Check.k2] at h
       simp -implicitDefEqProofs only [go_sem, seval, f1, hi1, f7, hq]
       refine X_reg (lx_ok γ) ?_
       obtain rfl := sI h
       simp -implicitDefEqProofs only [go_sem, seval, f1, hi1, f7, hq]
       refine kR_in rfl ?_ ⟨rfl, rfl⟩
       exact To.mv [(0, 0)] (BaseR.refl hob) (by simp) (by decide) (by simp only [go_sem]; exact ⟨VM.refA (j := 0) (t := 0) rfl, VM.eqv (by rw [hw1]) (by simp)⟩) ⟨⟨_, rfl, OM.box _ _ ⟨VM.self (by simpa using Bd.of_rdK hv0_0), trivial⟩⟩, trivial⟩
      ·refine X_block ?_
       obtain ⟨lr2, hl2, hk2, hr2⟩ := aft2 h
       refine X_forN hl2 (fun (i2 : Nat) (s : Unit) as1 ob1 => [(1, V.ref ob.length 0), (3, vint .i64 (i1 : Int)), (4, V.ref (ob.length + 1) 0), (5, vint .i64 (i2 : Int))] = as1 ∧ ob ++ [some (O.box [v0_0]), some (O.box [V.tr (.sl 1 false (List.map (eI .i64) x4.Kinds)), V.tr (.sl 1 false (List.map (eI .i64) x4.Base)), vint .i64 x4.Params, vint .i64 x4.Result, V.tr (.sl 1 false (List.map e_Block x4.Blocks))])] = ob1) ⟨_, _, ?_, rfl, rfl⟩ ?_ ?_
       ·exact To.mv [(0, 0), (1, 0)] (BaseR.refl hob) (by simp) (by decide) (by simp only [go_sem]; exact ⟨VM.refA (j := 0) (t := 0) rfl, vS, VM.refA (j := 1) (t := 1) rfl, VM.eqv (by simp) (by simp)⟩) ⟨⟨_, rfl, OM.box _ _ ⟨VM.self (by simpa using Bd.of_rdK hv0_0), trivial⟩⟩, ⟨_, rfl, OM.box _ _ ⟨vS, vS, vS, vS, vS, trivial⟩⟩, trivial⟩
       ·rintro i2 _ o2 hi2 hw2 h ho2 as1 ob1 ⟨rfl, rfl⟩
        rw [portolanref04_Check.b2] at h
        refine X_seq ?_
        refine X_sr (lx_ok γ) ?_
        simp -implicitDefEqProofs only [go_sem, seval, f1, hi1, f7, hi2, hq]
        refine X_cond (lx_ok γ) ?_
        simp -implicitDefEqProofs only [go_sem, seval, f1, hi1, f7, hi2, hq]
        refine X_skip ?_
        try simp -implicitDefEqProofs only [go_sem]
        refine X_seq ?_
        refine X_block ?_
        refine X_sr (lx_ok γ) ?_
        simp -implicitDefEqProofs only [go_sem, seval, f1, hi1, f7, hi2, hq]
        refine X_jq (J := fun as1 ob1 => portolanref04_Check.k3 = some o2 ∧ [(1, V.ref ob.length 0), (3, vint .i64 (i1 : Int)), (4, V.ref (ob.length + 1) 0), (5, vint .i64 (i2 : Int))] = as1 ∧ ob ++ [some (O.box [v0_0]), some (O.box [V.tr (.sl 1 false (List.map (eI .i64) x4.Kinds)), V.tr (.sl 1 false (List.map (eI .i64) x4.Base)), vint .i64 x4.Params, vint .i64 x4.Result, V.tr (.sl 1 false (List.map e_Block x4.Blocks))])] = ob1) ?_ ?_
        ·rintro as1 ob1 ⟨h, rfl, rfl⟩
         rw [portolanref04_Check.k3] at h
         simp -implicitDefEqProofs only [go_sem, seval, f1, hi1, f7, hi2, hq]
         refine X_reg (lx_ok γ) ?_
         obtain rfl := sI h
         simp -implicitDefEqProofs only [go_sem, seval, f1, hi1, f7, hi2, hq]
         refine kR_in rfl ?_ ⟨rfl, rfl⟩
         exact To.mv [(0, 0), (1, 0)] (BaseR.refl hob) (by simp) (by decide) (by simp only [go_sem]; exact ⟨VM.refA (j := 0) (t := 0) rfl, vS, VM.refA (j := 1) (t := 1) rfl, VM.eqv (by rw [hw2]) (by simp)⟩) ⟨⟨_, rfl, OM.box _ _ ⟨VM.self (by simpa using Bd.of_rdK hv0_0), trivial⟩⟩, ⟨_, rfl, OM.box _ _ ⟨vS, vS, vS, vS, vS, trivial⟩⟩, trivial⟩
        ·refine X_block ?_
         obtain ⟨lr3, hl3, hk3, hr3⟩ := aft2 h
         refine X_while hl3 (fun (s : Int) as1 ob1 => [(1, V.ref ob.length 0), (3, vint .i64 (i1 : Int)), (4, V.ref (ob.length + 1) 0), (5, vint .i64 (i2 : Int)), (6, vint .i64 s)] = as1 ∧ ob ++ [some (O.box [v0_0]), some (O.box [V.tr (.sl 1 false (List.map (eI .i64) x4.Kinds)), V.tr (.sl 1 false (List.map (eI .i64) x4.Base)), vint .i64 x4.Params, vint .i64 x4.Result, V.tr (.sl 1 false (List.map e_Block x4.Blocks))])] = ob1) ⟨_, _, ?_, rfl, rfl⟩ ?_
         ·exact To.mv [(0, 0), (1, 0)] (BaseR.refl hob) (by simp) (by decide) (by simp only [go_sem]; exact ⟨VM.refA (j := 0) (t := 0) rfl, vS, VM.refA (j := 1) (t := 1) rfl, vS, vS⟩) ⟨⟨_, rfl, OM.box _ _ ⟨VM.self (by simpa using Bd.of_rdK hv0_0), trivial⟩⟩, ⟨_, rfl, OM.box _ _ ⟨vS, vS, vS, vS, vS, trivial⟩⟩, trivial⟩
         ·rintro x7 o3 h ho3 as1 ob1 ⟨rfl, rfl⟩
          rw [portolanref04_Check.b3] at h
          refine X_seq ?_
          refine X_sr (lx_ok γ) ?_
          obtain ⟨x8, f8, h⟩ := bindE h
          obtain ⟨f9, f10⟩ := ixL_nat f8
          have f11 : (0 : Int) ≤ (i2 : Int) := Int.natCast_nonneg _
          simp -implicitDefEqProofs only [go_sem, seval, f1, hi1, f7, hi2, hq, f9, f10, f11]
          cases f12 : decide (x7 < (List.length x8.Code : Int))
          ·rw [if_neg (nF f12)] at h
           refine X_cond (lx_ok γ) ?_
           simp -implicitDefEqProofs only [go_sem, seval, f1, hi1, f7, hi2, f12, hq, f9, f10, f11]
           obtain rfl := sI h
           have h := hk3 _ (.inr (ho3 (fun _ hs => nomatch hs)))
           refine X_exit ?_
           try simp -implicitDefEqProofs only [go_sem, ↓reduceIte, Nat.reduceEqDiff, reduceCtorEq]
           refine kJ_in ?_ ⟨h, rfl, rfl⟩
           exact To.mv [(0, 0), (1, 0)] (BaseR.refl hob) (by simp) (by decide) (by simp only [go_sem]; exact ⟨VM.refA (j := 0) (t := 0) rfl, vS, VM.refA (j := 1) (t := 1) rfl, vS⟩) ⟨⟨_, rfl, OM.box _ _ ⟨VM.self (by simpa using Bd.of_rdK hv0_0), trivial⟩⟩, ⟨_, rfl, OM.box _ _ ⟨vS, vS, vS, vS, vS, trivial⟩⟩, trivial⟩
          ·rw [if_pos f12] at h
           refine X_cond (lx_ok γ) ?_
           simp -implicitDefEqProofs only [go_sem, seval, f1, hi1, f7, hi2, f12, hq, f9, f10, f11]
           refine X_skip ?_
           try simp -implicitDefEqProofs only [go_sem]
           refine X_seq ?_
           refine X_block ?_
           refine X_seq ?_
           refine X_drawn (lx_ok γ) [[], [], [], [2], [], [2, 3, 4], [2, 3, 4, 5], [2, 3, 4, 5, 6], [], [2, 3, 4, 5, 6, 7, 8], [2, 3, 4, 5, 6, 7, 8, 9], [0, 1, 2, 3, 4, 5, 6, 7, 8, 9, 10], [0, 1, 2, 3, 4, 5, 6, 7, 8, 9, 10, 11]] (fun i => match i with | _ => false) (by kernel_rfl) ?_
           obtain ⟨x9, f13, h⟩ := bindE h
           obtain ⟨f14, f15, f16⟩ := ixL_some f13
           try simp only [Int.toNat_natCast, Int.reduceToNat] at f16
           obtain ⟨x10, f17, h⟩ := bindE h
           try simp -implicitDefEqProofs only [go_sem, seval, f1, hi1, f7, hi2, f12, hq, f9, f10, f11, f14, f15, f16, cmpr, List.getD_cons_zero, List.getD_cons_succ, List.contains_cons, List.contains_nil, Nat.reduceBEq, Bool.false_or, Bool.or_false, Bool.true_or, Bool.or_true, beq_self_eq_true]
           refine callV_eq (portolanref04_Ins_ok γ _ (by first | exact rdK_app hv0_0 | exact hv0_0) (by simp -implicitDefEqProofs only [go_sem, seval, f1, hi1, f7, hi2, f12, hq, f9, f10, f11, f14, f15, f16]; try rfl) f17) rfl rfl ?_
           try simp -implicitDefEqProofs only [go_sem, seval, f1, hi1, f7, hi2, f12, hq, f9, f10, f11, f14, f15, f16, cmpr, List.getD_cons_zero, List.getD_cons_succ, List.contains_cons, List.contains_nil, Nat.reduceBEq, Bool.false_or, Bool.or_false, Bool.true_or, Bool.or_true, beq_self_eq_true]
           cases f18 : x10
           ·rw [if_neg (nF f18)] at h
            refine X_cond (lx_ok γ) ?_
            simp -implicitDefEqProofs only [go_sem, seval, f1, hi1, f7, hi2, f12, f18, hq, f9, f10, f11, f14, f15, f16]
            refine X_sr (lx_ok γ) ?_
            simp -implicitDefEqProofs only [go_sem, seval, f1, hi1, f7, hi2, f12, f18, hq]
            obtain rfl := sI h
            have h := hr3 _ (ho3 (fun _ hs => nomatch hs))
            obtain rfl := sI h
            have h := hr2 _ (ho2 (fun _ hs => nomatch hs))
            obtain rfl := sI h
            have h := hr1 _ (ho1 (fun _ hs => nomatch hs))
            obtain rfl := sI h
            refine X_ret ?_
            simp -implicitDefEqProofs only [go_sem, seval, f1, hi1, f7, hi2, f12, f18, hq]
            exact Rt.mv0 (BaseR.refl hob) (by simp) (vS)
           ·rw [if_pos f18] at h
            refine X_cond (lx_ok γ) ?_
            simp -implicitDefEqProofs only [go_sem, seval, f1, hi1, f7, hi2, f12, f18, hq, f9, f10, f11, f14, f15, f16]
            refine X_skip ?_
            try simp -implicitDefEqProofs only [go_sem]
            refine X_reg (lx_ok γ) ?_
            obtain rfl := sI h
            simp -implicitDefEqProofs only [go_sem, seval, f1, hi1, f7, hi2, f12, f18, hq]
            refine kR_in rfl ?_ ⟨rfl, rfl⟩
            exact To.mv [(0, 0), (1, 0)] (BaseR.refl hob) (by simp) (by decide) (by simp only [go_sem]; exact ⟨VM.refA (j := 0) (t := 0) rfl, vS, VM.refA (j := 1) (t := 1) rfl, vS, vS⟩) ⟨⟨_, rfl, OM.box _ _ ⟨VM.self (by simpa using Bd.of_rdK hv0_0), trivial⟩⟩, ⟨_, rfl, OM.box _ _ ⟨vS, vS, vS, vS, vS, trivial⟩⟩, trivial⟩
       ·rintro i2 _ hi2 hn2 as1 ob1 ⟨rfl, rfl⟩
        refine X_seq ?_
        refine X_sr (lx_ok γ) ?_
        simp -implicitDefEqProofs only [go_sem, seval, f1, hi1, f7, hi2, hq]
        refine X_cond (lx_ok γ) ?_
        simp -implicitDefEqProofs only [go_sem, seval, f1, hi1, f7, hi2, hq]
        have h := hk2 _ (.inl hn2)
        refine X_exit ?_
        try simp -implicitDefEqProofs only [go_sem, ↓reduceIte, Nat.reduceEqDiff, reduceCtorEq]
        refine kJ_in ?_ ⟨h, rfl, rfl⟩
        exact To.mv [(0, 0)] (BaseR.refl hob) (by simp) (by decide) (by simp only [go_sem]; exact ⟨VM.refA (j := 0) (t := 0) rfl, vS⟩) ⟨⟨_, rfl, OM.box _ _ ⟨VM.self (by simpa using Bd.of_rdK hv0_0), trivial⟩⟩, trivial⟩
    ·rintro i1 _ hi1 hn1 as1 ob1 ⟨rfl, rfl⟩
     refine X_seq ?_
     refine X_sr (lx_ok γ) ?_
     simp -implicitDefEqProofs only [go_sem, seval, f1, hi1, hq]
     refine X_cond (lx_ok γ) ?_
     simp -implicitDefEqProofs only [go_sem, seval, f1, hi1, hq]
     have h := hk1 _ (.inl hn1)
     refine X_exit ?_
     try simp -implicitDefEqProofs only [go_sem, ↓reduceIte, Nat.reduceEqDiff, reduceCtorEq]
     refine kJ_in ?_ ⟨h, rfl, rfl⟩
     exact To.mv0 (BaseR.refl hob) (by simp) trivial
  ·rw [if_pos f1] at h
   refine X_cond (lx_ok γ) ?_
   simp -implicitDefEqProofs only [go_sem, seval, f1, hq]
   refine X_sr (lx_ok γ) ?_
   simp -implicitDefEqProofs only [go_sem, seval, f1, hq]
   obtain rfl := sI h
   refine X_ret ?_
   simp -implicitDefEqProofs only [go_sem, seval, f1, hq]
   exact Rt.mv0 (BaseR.refl hob) (by simp) (vS)
 ·refine X_reg (lx_ok γ) ?_
  obtain ⟨x11, f19, h⟩ := bindE h
  simp -implicitDefEqProofs only [go_sem, seval, hq]
  refine callV_eq (portolanref04_within_ok γ _  f19) rfl rfl ?_
  cases f20 : x11
  ·rw [if_neg (nF f20)] at h
   simp -implicitDefEqProofs only [go_sem, seval, f20, hq]
   refine kJ_in ?_ ⟨true, h, rfl, rfl⟩
   exact To.mv [(0, 0)] (BaseR.refl hob) (by simp) (by decide) (by simp only [go_sem]; exact ⟨VM.refA (j := 0) (t := 0) rfl, vS⟩) ⟨⟨_, rfl, OM.box _ _ ⟨VM.self (by simpa using Bd.of_rdK hv0_0), trivial⟩⟩, trivial⟩
  ·rw [if_pos f20] at h
   obtain ⟨x12, f21, h⟩ := bindE h
   obtain ⟨f22, f23, f24⟩ := ixL_some f21
   try simp only [Int.toNat_natCast, Int.reduceToNat] at f24
   cases f25 : (x12.Params != 0)
   ·rw [if_neg (nF f25)] at h
    simp -implicitDefEqProofs only [go_sem, seval, f20, f25, hq, f23, f24]
    refine kJ_in ?_ ⟨(x12.Result != 0), h, rfl, rfl⟩
    exact To.mv [(0, 0)] (BaseR.refl hob) (by simp) (by decide) (by simp only [go_sem]; exact ⟨VM.refA (j := 0) (t := 0) rfl, vS⟩) ⟨⟨_, rfl, OM.box _ _ ⟨VM.self (by simpa using Bd.of_rdK hv0_0), trivial⟩⟩, trivial⟩
   ·rw [if_pos f25] at h
    simp -implicitDefEqProofs only [go_sem, seval, f20, f25, hq, f23, f24]
    refine kJ_in ?_ ⟨true, h, rfl, rfl⟩
    exact To.mv [(0, 0)] (BaseR.refl hob) (by simp) (by decide) (by simp only [go_sem]; exact ⟨VM.refA (j := 0) (t := 0) rfl, vS⟩) ⟨⟨_, rfl, OM.box _ _ ⟨VM.self (by simpa using Bd.of_rdK hv0_0), trivial⟩⟩, trivial⟩
end Go.Pf
end
section
set_option maxRecDepth 100000
namespace Go.Pf
open Go Go.Ab Go.Pp Go.Proofs Go.Proofs.S04
attribute [local go_sem] Lxτ Lxγ gam0 Int.toNat_natCast tau3 tau28 tau29 tau31 tau35 tau42 tau44 eI eB eS e_Ins e_Block e_Func e_Prog e_code_writer e_code_reader e_Edge
set_option maxHeartbeats 1000000 in
theorem flow_Next_ok (γ : GT) (ob : OT) {a0 : Func} {v0_0 : V} {v0_1 : V} {v0_4 : V} {a1 : Int} (hv0_0 : rdK (getO ob) 1 v0_0 = some (List.map (eI .i64) a0.Kinds)) (hv0_1 : rdK (getO ob) 1 v0_1 = some (List.map (eI .i64) a0.Base)) (hv0_4 : rdK (getO ob) 1 v0_4 = some (List.map e_Block a0.Blocks)) {r : List Int} (h : flow_Next a0 a1 = some r) :
  Valid (Lx γ) 69 [V.agg [v0_0, v0_1, vint .i64 a0.Params, vint .i64 a0.Result, v0_4], vint .i64 a1] ob (V.row ob.length 0 0 (List.length r)) (ob ++ [some (O.row 1 0 (List.map (eI .i64) r))]) := by
 refine valid_X (lx_ok γ) (fn := Tryd.f69) (rs := [.tmp 4]) Tryd.func69 (by kernel_rfl) rfl rfl Tryd.ntmps69 rfl (by simp) fun hb hob => ?_
 have hq := And.intro (rd4 hv0_0) (And.intro (rd4 hv0_1) (rd4 hv0_4))
 rw [flow_Next] at h
 refine X_sr (lx_ok γ) ?_
 simp -implicitDefEqProofs only [go_sem, seval, hq]
 refine X_seq ?_
 refine X_seq ?_
 refine X_jq (J := fun as1 ob1 => ∃ (x2 : Bool), flow_Next.j1 a0 a1 x2 = some r ∧ [(1, vint .i64 a1), (2, V.ref ob.length 0), (14, vbool x2)] = as1 ∧ ob ++ [some (O.box [v0_0, v0_1, vint .i64 a0.Params, vint .i64 a0.Result, v0_4])] = ob1) ?_ ?_
 ·rintro as1 ob1 ⟨x2, h, rfl, rfl⟩
  rw [flow_Next.j1] at h
  simp -implicitDefEqProofs only [go_sem, seval, hq]
  cases f1 : x2
  ·rw [if_neg (nF f1)] at h
   refine X_cond (lx_ok γ) ?_
   simp -implicitDefEqProofs only [go_sem, seval, f1, hq]
   refine X_skip ?_
   try simp -implicitDefEqProofs only [go_sem]
   refine X_sr (lx_ok γ) ?_
   obtain ⟨x3, f2, h⟩ := bindE h
   obtain ⟨f3, f4, f5⟩ := ixL_some f2
   try simp only [Int.toNat_natCast, Int.reduceToNat] at f5
   simp -implicitDefEqProofs only [go_sem, seval, f1, hq, f3, f4, f5]
   refine X_seq ?_
   refine X_sr (lx_ok γ) ?_
   simp -implicitDefEqProofs only [go_sem, seval, f1, hq]
   cases f6 : ((List.length x3.Code : Int) == 0)
   ·rw [if_neg (nF f6)] at h
    refine X_cond (lx_ok γ) ?_
    simp -implicitDefEqProofs only [go_sem, seval, f1, f6, hq]
    refine X_skip ?_
    try simp -implicitDefEqProofs only [go_sem]
    refine X_sr (lx_ok γ) ?_
    obtain ⟨x4, f7, h⟩ := bindE h
    obtain ⟨f8, f9, f10⟩ := ixL_some f7
    try simp only [Int.toNat_natCast, Int.reduceToNat] at f10
    obtain ⟨x5, f11, h⟩ := bindE h
    simp -implicitDefEqProofs only [go_sem, seval, f1, f6, hq, f8, f9, f10]
    refine callV_eq (shape_Next_ok γ _ (by simp -implicitDefEqProofs only [go_sem, seval, f1, f6, hq, f8, f9, f10]; try rfl) f11) rfl rfl ?_
    simp -implicitDefEqProofs only [go_sem, seval, f1, f6, hq, f8, f9, f10]
    obtain rfl := sI h
    refine X_ret ?_
    simp -implicitDefEqProofs only [go_sem, seval, f1, f6, hq, f8, f9, f10]
    exact Rt.mv [(1, 0)] (BaseR.refl hob) (by simp) (by decide) (VM.rowL (j := 1) (t := 0) rfl (by first | rfl | simp | simp_all | omega)) ⟨⟨_, rfl, OM.row' (by first | rfl | simp_all)⟩, trivial⟩
   ·rw [if_pos f6] at h
    refine X_cond (lx_ok γ) ?_
    simp -implicitDefEqProofs only [go_sem, seval, f1, f6, hq]
    refine X_sr (lx_ok γ) ?_
    simp -implicitDefEqProofs only [go_sem, seval, f1, f6, hq]
    obtain rfl := sI h
    refine X_ret ?_
    simp -implicitDefEqProofs only [go_sem, seval, f1, f6, hq]
    exact Rt.trans (Rt.mv0 (BaseR.refl hob) (by simp) (vS)) Rt.nilRow
  ·rw [if_pos f1] at h
   refine X_cond (lx_ok γ) ?_
   simp -implicitDefEqProofs only [go_sem, seval, f1, hq]
   refine X_sr (lx_ok γ) ?_
   simp -implicitDefEqProofs only [go_sem, seval, f1, hq]
   obtain rfl := sI h
   refine X_ret ?_
   simp -implicitDefEqProofs only [go_sem, seval, f1, hq]
   exact Rt.trans (Rt.mv0 (BaseR.refl hob) (by simp) (vS)) Rt.nilRow
 ·refine X_reg (lx_ok γ) ?_
  cases f12 : decide (a1 < 0)
  ·rw [if_neg (nF f12)] at h
   simp -implicitDefEqProofs only [go_sem, seval, f12, hq]
   refine kJ_in ?_ ⟨(decide ((List.length a0.Blocks : Int) ≤ a1)), h, rfl, rfl⟩
   exact To.mv [(0, 0)] (BaseR.refl hob) (by simp) (by decide) (by simp only [go_sem]; exact ⟨vS, VM.refA (j := 0) (t := 0) rfl, vS⟩) ⟨⟨_, rfl, OM.box _ _ ⟨VM.self (by simpa using Bd.of_rdK hv0_0), VM.self (by simpa using Bd.of_rdK hv0_1), vS, vS, VM.self (by simpa using Bd.of_rdK hv0_4), trivial⟩⟩, trivial⟩
  ·rw [if_pos f12] at h
   simp -implicitDefEqProofs only [go_sem, seval, f12, hq]
   refine kJ_in ?_ ⟨true, h, rfl, rfl⟩
   exact To.mv [(0, 0)] (BaseR.refl hob) (by simp) (by decide) (by simp only [go_sem]; exact ⟨vS, VM.refA (j := 0) (t := 0) rfl, vS⟩) ⟨⟨_, rfl, OM.box _ _ ⟨VM.self (by simpa using Bd.of_rdK hv0_0), VM.self (by simpa using Bd.of_rdK hv0_1), vS, vS, VM.self (by simpa using Bd.of_rdK hv0_4), trivial⟩⟩, trivial⟩
end Go.Pf
end
section
set_option maxRecDepth 100000
namespace Go.Pf
open Go Go.Ab Go.Pp Go.Proofs Go.Proofs.S04
attribute [local go_sem] Lxτ Lxγ gam0 Int.toNat_natCast tau3 tau28 tau29 tau31 tau35 tau42 tau44 tau52 tau83 eI eB eS e_Ins e_Block e_Func e_Prog e_code_writer e_code_reader e_Edge
set_option maxHeartbeats 1000000 in
theorem flow_Edges_ok (γ : GT) (ob : OT) {a0 : Func} {v0_0 : V} {v0_1 : V} {v0_4 : V} (hv0_0 : rdK (getO ob) 1 v0_0 = some (List.map (eI .i64) a0.Kinds)) (hv0_1 : rdK (getO ob) 1 v0_1 = some (List.map (eI .i64) a0.Base)) (hv0_4 : rdK (getO ob) 1 v0_4 = some (List.map e_Block a0.Blocks)) {r : List Edge} (h : flow_Edges a0 = some r) :
  Valid (Lx γ) 66 [V.agg [v0_0, v0_1, vint .i64 a0.Params, vint .i64 a0.Result, v0_4]] ob (V.row ob.length 0 0 (List.length r)) (ob ++ [some (O.row 2 0 (List.map e_Edge r))]) := by
 refine valid_X (lx_ok γ) (fn := Tryd.f66) (rs := [.tmp 2]) Tryd.func66 (by kernel_rfl) rfl rfl Tryd.ntmps66 rfl (by simp) fun hb hob => ?_
 have hq := And.intro (rd4 hv0_0) (And.intro (rd4 hv0_1) (rd4 hv0_4))
 rw [flow_Edges] at h
 refine X_sr (lx_ok γ) ?_
 simp -implicitDefEqProofs only [go_sem, seval, hq]
 refine X_sr (lx_ok γ) ?_
 simp -implicitDefEqProofs only [go_sem, seval, hq]
 refine X_seq ?_
 refine X_sr (lx_ok γ) ?_
 simp -implicitDefEqProofs only [go_sem, seval, hq]
 refine X_jq (J := fun as1 ob1 => ∃ (x1 : List Edge), flow_Edges.k1 x1 = some r ∧ [(3, V.row ob.length 0 0 (List.length x1))] = as1 ∧ ob ++ [some (O.row 2 0 (List.map e_Edge x1))] = ob1) ?_ ?_
 ·rintro as1 ob1 ⟨x1, h, rfl, rfl⟩
  rw [flow_Edges.k1] at h
  simp -implicitDefEqProofs only [go_sem, seval, hq]
  refine X_sr (lx_ok γ) ?_
  simp -implicitDefEqProofs only [go_sem, seval, hq]
  obtain rfl := sI h
  refine X_ret ?_
  simp -implicitDefEqProofs only [go_sem, seval, hq]
  exact Rt.mv [(0, 0)] (BaseR.refl hob) (by simp) (by decide) (VM.rowL (j := 0) (t := 0) rfl (by first | rfl | simp | simp_all | omega)) ⟨⟨_, rfl, OM.row' (by first | rfl | simp_all)⟩, trivial⟩
 ·refine X_block ?_
  obtain ⟨lr1, hl1, hk1, hr1⟩ := aft2 h
  refine X_forN hl1 (fun (i1 : Nat) (s : (List Edge)) as1 ob1 => [(1, V.ref ob.length 0), (3, V.row (ob.length + 1) 0 0 (List.length s)), (9, vint .i64 (List.length a0.Blocks : Int)), (10, vint .i64 (i1 : Int))] = as1 ∧ ob ++ [some (O.box [v0_0, v0_1, vint .i64 a0.Params, vint .i64 a0.Result, v0_4]), some (O.row 2 0 (List.map e_Edge s))] = ob1) ⟨_, _, ?_, rfl, rfl⟩ ?_ ?_
  ·exact To.trans (To.gh (as' := [(1, _), (3, V.row (ob.length + 1) 0 0 0), (9, _), (10, _)]) (l' := [some (O.box [_, _, _, _, _])]) 2 ⟨VG.refl _ _ _, VG.nilL, VG.refl _ _ _, VG.refl _ _ _, trivial⟩ ⟨Or.inl rfl, trivial⟩) (To.mv [(0, 0), (1, 0)] (BaseR.refl hob) (by simp) (by decide) (by simp only [go_sem]; exact ⟨VM.refA (j := 0) (t := 0) rfl, VM.rowL (j := 1) (t := 1) rfl (by simp), vS, VM.eqv (by simp) (by simp)⟩) ⟨⟨_, rfl, OM.box _ _ ⟨VM.self (by simpa using Bd.of_rdK hv0_0), VM.self (by simpa using Bd.of_rdK hv0_1), vS, vS, VM.self (by simpa using Bd.of_rdK hv0_4), trivial⟩⟩, ⟨_, rfl, OM.row' rfl⟩, trivial⟩)
  ·rintro i1 x1 o1 hi1 hw1 h ho1 as1 ob1 ⟨rfl, rfl⟩
   rw [flow_Edges.b1] at h
   refine X_sr (lx_ok γ) ?_
   simp -implicitDefEqProofs only [go_sem, seval, hi1, hq]
   refine X_seq ?_
   refine X_cond (lx_ok γ) ?_
   simp -implicitDefEqProofs only [go_sem, seval, hi1, hq]
   refine X_skip ?_
   try simp -implicitDefEqProofs only [go_sem]
   refine X_seq ?_
   refine X_block ?_
   refine X_sr (lx_ok γ) ?_
   simp -implicitDefEqProofs only [go_sem, seval, hi1, hq]
   refine X_sr (lx_ok γ) ?_
   obtain ⟨x3, f1, h⟩ := bindE h
   simp -implicitDefEqProofs only [go_sem, seval, hi1, hq]
   refine callV_eq (flow_Next_ok γ _ (by first | exact rdK_app hv0_0 | exact hv0_0) (by first | exact rdK_app hv0_1 | exact hv0_1) (by first | exact rdK_app hv0_4 | exact hv0_4) f1) rfl rfl ?_
   simp -implicitDefEqProofs only [go_sem, seval, hi1, hq]
   refine X_jq (J := fun as1 ob1 => ∃ (x4 : List Edge), flow_Edges.k2 x4 = some o1 ∧ [(1, V.ref ob.length 0), (3, V.row (ob.length + 1) 0 0 (List.length x4)), (9, vint .i64 (List.length a0.Blocks : Int)), (10, vint .i64 (i1 : Int))] = as1 ∧ ob ++ [some (O.box [v0_0, v0_1, vint .i64 a0.Params, vint .i64 a0.Result, v0_4]), some (O.row 2 0 (List.map e_Edge x4))] = ob1) ?_ ?_
   ·rintro as1 ob1 ⟨x4, h, rfl, rfl⟩
    rw [flow_Edges.k2] at h
    simp -implicitDefEqProofs only [go_sem, seval, hi1, hq]
    refine X_reg (lx_ok γ) ?_
    obtain rfl := sI h
    simp -implicitDefEqProofs only [go_sem, seval, hi1, hq]
    refine kR_in rfl ?_ ⟨rfl, rfl⟩
    exact To.mv [(0, 0), (1, 0)] (BaseR.refl hob) (by simp) (by decide) (by simp only [go_sem]; exact ⟨VM.refA (j := 0) (t := 0) rfl, VM.rowL (j := 1) (t := 1) rfl (by first | rfl | simp | simp_all | omega), vS, VM.eqv (by rw [hw1]) (by simp)⟩) ⟨⟨_, rfl, OM.box _ _ ⟨VM.self (by simpa using Bd.of_rdK hv0_0), VM.self (by simpa using Bd.of_rdK hv0_1), vS, vS, VM.self (by simpa using Bd.of_rdK hv0_4), trivial⟩⟩, ⟨_, rfl, OM.row' (by first | rfl | simp_all)⟩, trivial⟩
   ·refine X_block ?_
    obtain ⟨lr2, hl2, hk2, hr2⟩ := aft2 h
    refine X_forN hl2 (fun (i2 : Nat) (s : (List Edge)) as1 ob1 => [(1, V.ref ob.length 0), (3, V.row (ob.length + 1) 0 0 (List.length s)), (4, vint .i64 (i1 : Int)), (9, vint .i64 (List.length a0.Blocks : Int)), (10, vint .i64 (i1 : Int)), (15, V.row (ob.length + 2) 0 0 (List.length x3)), (16, vint .i64 (List.length x3 : Int)), (17, vint .i64 (i2 : Int))] = as1 ∧ ob ++ [some (O.box [v0_0, v0_1, vint .i64 a0.Params, vint .i64 a0.Result, v0_4]), some (O.row 2 0 (List.map e_Edge s)), some (O.row 1 0 (List.map (eI .i64) x3))] = ob1) ⟨_, _, ?_, rfl, rfl⟩ ?_ ?_
    ·exact To.mv [(0, 0), (1, 0), (2, 0)] (BaseR.refl hob) (by simp) (by decide) (by simp only [go_sem]; exact ⟨VM.refA (j := 0) (t := 0) rfl, VM.rowL (j := 1) (t := 1) rfl (by first | rfl | simp | simp_all | omega), vS, vS, vS, VM.rowL (j := 2) (t := 2) rfl (by first | rfl | simp | simp_all | omega), vS, VM.eqv (by simp) (by simp)⟩) ⟨⟨_, rfl, OM.box _ _ ⟨VM.self (by simpa using Bd.of_rdK hv0_0), VM.self (by simpa using Bd.of_rdK hv0_1), vS, vS, VM.self (by simpa using Bd.of_rdK hv0_4), trivial⟩⟩, ⟨_, rfl, OM.row' (by first | rfl | simp_all)⟩, ⟨_, rfl, OM.row' (by first | rfl | simp_all)⟩, trivial⟩
    ·rintro i2 x4 o2 hi2 hw2 h ho2 as1 ob1 ⟨rfl, rfl⟩
     rw [flow_Edges.b2] at h
     refine X_sr (lx_ok γ) ?_
     simp -implicitDefEqProofs only [go_sem, seval, hi1, hi2, hq]
     refine X_seq ?_
     refine X_cond (lx_ok γ) ?_
     simp -implicitDefEqProofs only [go_sem, seval, hi1, hi2, hq]
     refine X_skip ?_
     try simp -implicitDefEqProofs only [go_sem]
     refine X_seq ?_
     refine X_block ?_
     refine X_sr (lx_ok γ) ?_
     obtain ⟨x6, f2, h⟩ := bindE h
     obtain ⟨f3, f4⟩ := ixL_nat f2
     have f5 : (0 : Int) ≤ (i2 : Int) := Int.natCast_nonneg _
     simp -implicitDefEqProofs only [go_sem, seval, hi1, hi2, hq, f3, f4, f5]
     refine X_reg (lx_ok γ) ?_
     obtain ⟨x7, f6, h⟩ := bindE h
     have f7 : List.length x7 * 16 ≤ 140737488355328 := by have := (appL_some f6).1; rw [(appL_some f6).2]; simpa using this
     have f8 : List.map e_Edge x4 ++ [[.lit (.int .i64 (i1 : Int)), .lit (.int .i64 x6)]] = List.map e_Edge x7 := by rw [(appL_some f6).2]; simp [eB, eI, eS, e_Edge]
     have f9 : List.length x4 + 1 = List.length x7 := by rw [(appL_some f6).2]; simp
     simp -implicitDefEqProofs only [go_sem, seval, hi1, hi2, hq, f7, f8, f9]
     refine X_reg (lx_ok γ) ?_
     obtain rfl := sI h
     simp -implicitDefEqProofs only [go_sem, seval, hi1, hi2, hq]
     refine kR_in rfl ?_ ⟨rfl, rfl⟩
     exact To.mv [(0, 0), (1, 1), (2, 0)] (BaseR.refl hob) (by simp) (by decide) (by simp only [go_sem]; exact ⟨VM.refA (j := 0) (t := 0) rfl, VM.rowL (j := 1) (t := 1) rfl (by first | rfl | simp | simp_all | omega), vS, vS, vS, VM.rowL (j := 2) (t := 2) rfl (by first | rfl | simp | simp_all | omega), vS, VM.eqv (by rw [hw2]) (by simp)⟩) ⟨⟨_, rfl, OM.box _ _ ⟨VM.self (by simpa using Bd.of_rdK hv0_0), VM.self (by simpa using Bd.of_rdK hv0_1), vS, vS, VM.self (by simpa using Bd.of_rdK hv0_4), trivial⟩⟩, ⟨_, rfl, OM.row' (by first | rfl | simp_all)⟩, ⟨_, rfl, OM.row' (by first | rfl | simp_all)⟩, trivial⟩
    ·rintro i2 x4 hi2 hn2 as1 ob1 ⟨rfl, rfl⟩
     refine X_sr (lx_ok γ) ?_
     simp -implicitDefEqProofs only [go_sem, seval, hi1, hi2, hq]
     refine X_seq ?_
     refine X_cond (lx_ok γ) ?_
     simp -implicitDefEqProofs only [go_sem, seval, hi1, hi2, hq]
     have h := hk2 _ (.inl hn2)
     refine X_exit ?_
     try simp -implicitDefEqProofs only [go_sem, ↓reduceIte, Nat.reduceEqDiff, reduceCtorEq]
     refine kJ_in ?_ ⟨x4, h, rfl, rfl⟩
     exact To.mv [(0, 0), (1, 0)] (BaseR.refl hob) (by simp) (by decide) (by simp only [go_sem]; exact ⟨VM.refA (j := 0) (t := 0) rfl, VM.rowL (j := 1) (t := 1) rfl (by first | rfl | simp | simp_all | omega), vS, vS⟩) ⟨⟨_, rfl, OM.box _ _ ⟨VM.self (by simpa using Bd.of_rdK hv0_0), VM.self (by simpa using Bd.of_rdK hv0_1), vS, vS, VM.self (by simpa using Bd.of_rdK hv0_4), trivial⟩⟩, ⟨_, rfl, OM.row' (by first | rfl | simp_all)⟩, trivial⟩
  ·rintro i1 x1 hi1 hn1 as1 ob1 ⟨rfl, rfl⟩
   refine X_sr (lx_ok γ) ?_
   simp -implicitDefEqProofs only [go_sem, seval, hi1, hq]
   refine X_seq ?_
   refine X_cond (lx_ok γ) ?_
   simp -implicitDefEqProofs only [go_sem, seval, hi1, hq]
   have h := hk1 _ (.inl hn1)
   refine X_exit ?_
   try simp -implicitDefEqProofs only [go_sem, ↓reduceIte, Nat.reduceEqDiff, reduceCtorEq]
   refine kJ_in ?_ ⟨x1, h, rfl, rfl⟩
   exact To.mv [(1, 0)] (BaseR.refl hob) (by simp) (by decide) (by simp only [go_sem]; exact VM.rowL (j := 1) (t := 0) rfl (by first | rfl | simp | simp_all | omega)) ⟨⟨_, rfl, OM.row' (by first | rfl | simp_all)⟩, trivial⟩
end Go.Pf
end
section
set_option maxRecDepth 100000
namespace Go.Pf
open Go Go.Ab Go.Pp Go.Proofs Go.Proofs.S04
attribute [local go_sem] Lxτ Lxγ gam0 Int.toNat_natCast tau3 tau52 tau83 eI eB eS e_Ins e_Block e_Func e_Prog e_code_writer e_code_reader e_Edge
set_option maxHeartbeats 1000000 in
theorem slices_IndexFunc_Edge_ok (γ : GT) (ob : OT) {a0 : List Edge} {v0 : V} {a1 : Edge → Option (Bool)} {w1 : V} (hv0 : rdK (getO ob) 2 v0 = some (List.map e_Edge a0)) (hf1 : ∀ (ob1 : OT), ob <+: ob1 → ∀ (y0 : Edge) (r : Bool), a1 y0 = some r → FnV (Lx γ) w1 [V.agg [vint .i64 y0.From, vint .i64 y0.To]] ob1 (vbool r) ob1) {r : Int} (h : slices_IndexFunc_Edge a0 a1 = some r) :
  Valid (Lx γ) 90 [v0, w1] ob (vint .i64 r) ob := by
 refine valid_X (lx_ok γ) (fn := Tryd.f90) (rs := [.tmp 4]) Tryd.func90 (by kernel_rfl) rfl rfl Tryd.ntmps90 rfl (by simp) fun hb hob => ?_
 have hq := rd4 hv0
 rw [slices_IndexFunc_Edge] at h
 refine X_sr (lx_ok γ) ?_
 simp -implicitDefEqProofs only [go_sem, seval, hq]
 refine X_seq ?_
 refine X_sr (lx_ok γ) ?_
 simp -implicitDefEqProofs only [go_sem, seval, hq]
 refine X_jq (J := fun as1 ob1 => slices_IndexFunc_Edge.k1 = some r ∧ [] = as1 ∧ ob = ob1) ?_ ?_
 ·rintro as1 ob1 ⟨h, rfl, rfl⟩
  rw [slices_IndexFunc_Edge.k1] at h
  simp -implicitDefEqProofs only [go_sem, seval, hq]
  refine X_sr (lx_ok γ) ?_
  simp -implicitDefEqProofs only [go_sem, seval, hq]
  obtain rfl := sI h
  refine X_ret ?_
  simp -implicitDefEqProofs only [go_sem, seval, hq]
  exact Rt.mv1 (BaseR.refl hob) (by simp) (vS)
 ·refine X_block ?_
  obtain ⟨lr1, hl1, hk1, hr1⟩ := aft2 h
  refine X_forN hl1 (fun (i1 : Nat) (s : Unit) as1 ob1 => [(0, v0), (1, w1), (7, vint .i64 (List.length a0 : Int)), (8, vint .i64 (i1 : Int))] = as1 ∧ ob = ob1) ⟨_, _, ?_, rfl, rfl⟩ ?_ ?_
  ·exact To.mv1 (BaseR.refl hob) (by simp) (by simp only [go_sem]; exact ⟨VM.self (by simpa using Bd.of_rdK hv0), VM.self (by simpa using hb w1 (by simp)), vS, VM.eqv (by simp) (by simp)⟩)
  ·rintro i1 _ o1 hi1 hw1 h ho1 as1 ob1 ⟨rfl, rfl⟩
   rw [slices_IndexFunc_Edge.b1] at h
   refine X_sr (lx_ok γ) ?_
   simp -implicitDefEqProofs only [go_sem, seval, hi1, hq]
   refine X_seq ?_
   refine X_cond (lx_ok γ) ?_
   simp -implicitDefEqProofs only [go_sem, seval, hi1, hq]
   refine X_skip ?_
   try simp -implicitDefEqProofs only [go_sem]
   refine X_seq ?_
   refine X_block ?_
   refine X_sr (lx_ok γ) ?_
   simp -implicitDefEqProofs only [go_sem, seval, hi1, hq]
   refine X_sr (lx_ok γ) ?_
   obtain ⟨x2, f1, h⟩ := bindE h
   obtain ⟨f2, f3⟩ := ixL_nat f1
   have f4 : (0 : Int) ≤ (i1 : Int) := Int.natCast_nonneg _
   obtain ⟨x3, f5, h⟩ := bindE h
   simp -implicitDefEqProofs only [go_sem, seval, hi1, hq, f2, f3, f4]
   refine callV_fn (hf1 _ List.prefix_rfl _ _ f5) rfl rfl ?_
   simp -implicitDefEqProofs only [go_sem, seval, hi1, hq, f2, f3, f4]
   cases f6 : x3
   ·rw [if_neg (nF f6)] at h
    refine X_cond (lx_ok γ) ?_
    simp -implicitDefEqProofs only [go_sem, seval, hi1, f6, hq, f2, f3, f4]
    refine X_skip ?_
    try simp -implicitDefEqProofs only [go_sem]
    refine X_reg (lx_ok γ) ?_
    obtain rfl := sI h
    simp -implicitDefEqProofs only [go_sem, seval, hi1, f6, hq]
    refine kR_in rfl ?_ ⟨rfl, rfl⟩
    exact To.mv1 (BaseR.refl hob) (by simp) (by simp only [go_sem]; exact ⟨VM.self (by simpa using Bd.of_rdK hv0), VM.self (by simpa using hb w1 (by simp)), vS, VM.eqv (by rw [hw1]) (by simp)⟩)
   ·rw [if_pos f6] at h
    refine X_cond (lx_ok γ) ?_
    simp -implicitDefEqProofs only [go_sem, seval, hi1, f6, hq, f2, f3, f4]
    refine X_sr (lx_ok γ) ?_
    simp -implicitDefEqProofs only [go_sem, seval, hi1, f6, hq]
    obtain rfl := sI h
    have h := hr1 _ (ho1 (fun _ hs => nomatch hs))
    obtain rfl := sI h
    refine X_ret ?_
    simp -implicitDefEqProofs only [go_sem, seval, hi1, f6, hq]
    exact Rt.mv1 (BaseR.refl hob) (by simp) (vS)
  ·rintro i1 _ hi1 hn1 as1 ob1 ⟨rfl, rfl⟩
   refine X_sr (lx_ok γ) ?_
   simp -implicitDefEqProofs only [go_sem, seval, hi1, hq]
   refine X_seq ?_
   refine X_cond (lx_ok γ) ?_
   simp -implicitDefEqProofs only [go_sem, seval, hi1, hq]
   have h := hk1 _ (.inl hn1)
   refine X_exit ?_
   try simp -implicitDefEqProofs only [go_sem, ↓reduceIte, Nat.reduceEqDiff, reduceCtorEq]
   refine kJ_in ?_ ⟨h, rfl, rfl⟩
   exact To.mv1 (BaseR.refl hob) (by simp) trivial
end Go.Pf
end
section
set_option maxRecDepth 100000
namespace Go.Pf
open Go Go.Ab Go.Pp Go.Proofs Go.Proofs.S04
attribute [local go_sem] Lxτ Lxγ gam0 Int.toNat_natCast tau3 tau4 tau52 tau83 tau86 eI eB eS e_Ins e_Block e_Func e_Prog e_code_writer e_code_reader e_Edge
set_option maxHeartbeats 1000000 in
theorem slices_DeleteFunc_Edge_ok (γ : GT) (ob : OT) {r0 e0 : Nat} {a0 : List Edge} {a1 : Edge → Option (Bool)} {w1 : V} (hx0 : getO ob r0 = some (O.row 2 e0 (List.map e_Edge a0))) (hf1 : ∀ (ob1 : OT), (List.set ob r0 none) <+: ob1 → ∀ (y0 : Edge) (r : Bool), a1 y0 = some r → FnV (Lx γ) w1 [V.agg [vint .i64 y0.From, vint .i64 y0.To]] ob1 (vbool r) ob1) {r : List Edge} (h : slices_DeleteFunc_Edge a0 a1 = some r) :
  Valid (Lx γ) 67 [V.row r0 e0 0 (List.length a0), w1] ob (V.tr (.sl 2 false (List.map e_Edge r))) (List.set ob r0 none) := by
 refine valid_X (lx_ok γ) (fn := Tryd.f67) (rs := [.tmp 4]) Tryd.func67 (by kernel_rfl) rfl rfl Tryd.ntmps67 rfl (by simp) fun hb hob => ?_
 refine X.to (To.take (as' := [(0, V.row ob.length 0 0 (List.length a0)), (1, w1)]) hx0 (by simp only [go_sem]; exact ⟨VT.row, VT.refl⟩) (TK.one hx0)) ?_
 have hb2 : ∀ c ∈ ([w1] : List V), Bd (List.set ob r0 none).length c := by rw [length_setO]; intro c hc; exact hb c (by simp only [List.mem_cons, List.not_mem_nil, or_false] at hc ⊢; simp [hc])
 have hob2 : TBd (List.set ob r0 none).length (List.set ob r0 none) := by rw [length_setO]; exact hob.del
 rw [← length_setO (ob := ob) (o := r0) (x := none)]
 clear hb hob
 generalize List.set ob r0 none = ob at hob2 hb2 hf1 ⊢
 have hob := hob2
 have hb := hb2
 rw [slices_DeleteFunc_Edge] at h
 refine X_sr (lx_ok γ) ?_
 simp -implicitDefEqProofs only [go_sem, seval]
 refine X_sr (lx_ok γ) ?_
 obtain ⟨x1, f1, h⟩ := bindE h
 simp -implicitDefEqProofs only [go_sem, seval]
 refine callV_eq (slices_IndexFunc_Edge_ok γ _ (by simp -implicitDefEqProofs only [go_sem, seval]; try rfl) (fun ob1 hp => hf1 ob1 (List.IsPrefix.trans (List.prefix_append _ _) hp)) f1) rfl rfl ?_
 simp -implicitDefEqProofs only [go_sem, seval]
 refine X_seq ?_
 refine X_sr (lx_ok γ) ?_
 simp -implicitDefEqProofs only [go_sem, seval]
 cases f2 : (x1 == (-1))
 ·rw [if_neg (nF f2)] at h
  refine X_cond (lx_ok γ) ?_
  simp -implicitDefEqProofs only [go_sem, seval, f2]
  refine X_skip ?_
  try simp -implicitDefEqProofs only [go_sem]
  refine X_seq ?_
  refine X_sr (lx_ok γ) ?_
  simp -implicitDefEqProofs only [go_sem, seval, f2]
  refine X_jq (J := fun as1 ob1 => ∃ (x2 : List Edge) (x3 : Int), slices_DeleteFunc_Edge.k1 x2 x3 = some r ∧ [(0, V.row ob.length 0 0 (List.length x2)), (5, vint .i64 x3)] = as1 ∧ ob ++ [some (O.row 2 0 (List.map e_Edge x2))] = ob1) ?_ ?_
  ·rintro as1 ob1 ⟨x2, x3, h, rfl, rfl⟩
   rw [slices_DeleteFunc_Edge.k1] at h
   simp -implicitDefEqProofs only [go_sem, seval, f2]
   refine X_sr (lx_ok γ) ?_
   obtain ⟨x5, f3, h⟩ := bindE h
   obtain ⟨f4, f5, f6, f7⟩ := tailL_some2 f3
   try simp only [Int.toNat_natCast, Int.reduceToNat] at f5 f6 f7
   obtain ⟨x6, f8, h⟩ := bindE h
   have f9 : List.length x5 = List.length x2 - (Int.toNat x3) := by rw [← (‹List.take (List.length x2 - (Int.toNat x3)) (List.drop (Int.toNat x3) x2) = x5› : _)]; simp
   have f10 : List.map e_Edge (List.take (Int.toNat x3) x2) ++ (List.replicate (List.length x5) [Tr.lit (.int .i64 0), Tr.lit (.int .i64 0)] ++ List.map e_Edge (List.drop ((Int.toNat x3) + (List.replicate (List.length x5) [Tr.lit (.int .i64 0), Tr.lit (.int .i64 0)]).length) x2)) = List.map e_Edge x6 := by rw [← Option.some.inj f8, f9, List.length_replicate]; simp [eB, eI, eS, e_Edge]; omega
   have f11 : List.length x2 = List.length x6 := by rw [← Option.some.inj f8]; simp; omega
   simp -implicitDefEqProofs only [go_sem, seval, f2, f4, f5, f6, f7, f10]
   refine X.to (as' := [(0, V.row ob.length 0 0 (List.length x6)), (5, vint .i64 x3)]) (ob' := ob ++ [some (O.row 2 0 (List.map e_Edge x6))]) ?_ ?_
   ·exact To.mv [(0, 0)] (BaseR.refl hob) (by simp) (by decide) (by simp only [go_sem]; exact ⟨VM.rowL (j := 0) (t := 0) rfl (by first | rfl | simp | simp_all | omega), vS⟩) ⟨⟨_, rfl, OM.row' (by first | rfl | simp_all)⟩, trivial⟩
   refine X_sr (lx_ok γ) ?_
   obtain ⟨x7, f12, h⟩ := bindE h
   obtain ⟨f13, f14, f15⟩ := headL_some f12
   try simp only [Int.toNat_natCast, Int.reduceToNat] at f14 f15
   simp -implicitDefEqProofs only [go_sem, seval, f2, f4, f5, f6, f7, f13, f14, f15]
   obtain rfl := sI h
   refine X_ret ?_
   simp -implicitDefEqProofs only [go_sem, seval, f2, f4, f5, f6, f7, f13, f14, f15]
   refine Rt.trans (Rt.frzZ (v' := V.sub 2 (V.tr (.sl 2 false (List.map e_Edge x6))) 0 (Int.toNat x3) false) (l' := [none]) 0 rfl (VZ.sub (VZ.row (by first | rfl | simp | simp_all))) ⟨Or.inl rfl, trivial⟩) ?_
   exact Rt.mv0 (BaseR.refl hob) (by simp) (VM.subTr (by first | (simp [*]; done) | simp only [List.drop_zero, drop_map, take_map, *]))
  ·refine X_block ?_
   obtain ⟨lr1, hl1, hk1, hr1⟩ := aft2 h
   refine X_while hl1 (fun (s : (List Edge) × Int × Int) as1 ob1 => [(0, V.row ob.length 0 0 (List.length s.1)), (1, w1), (5, vint .i64 s.2.1), (6, vint .i64 s.2.2)] = as1 ∧ ob ++ [some (O.row 2 0 (List.map e_Edge s.1))] = ob1) ⟨_, _, ?_, rfl, rfl⟩ ?_
   ·exact To.mv [(0, 0)] (BaseR.refl hob) (by simp) (by decide) (by simp only [go_sem]; exact ⟨VM.rowL (j := 0) (t := 0) rfl (by first | rfl | simp | simp_all | omega), VM.self (by simpa using hb w1 (by simp)), vS, vS⟩) ⟨⟨_, rfl, OM.row' (by first | rfl | simp_all)⟩, trivial⟩
   ·rintro ⟨x2, x3, x4⟩ o1 h ho1 as1 ob1 ⟨rfl, rfl⟩
    rw [slices_DeleteFunc_Edge.b1] at h
    refine X_seq ?_
    refine X_sr (lx_ok γ) ?_
    simp -implicitDefEqProofs only [go_sem, seval, f2]
    cases f16 : decide (x4 < (List.length x2 : Int))
    ·rw [if_neg (nF f16)] at h
     refine X_cond (lx_ok γ) ?_
     simp -implicitDefEqProofs only [go_sem, seval, f2, f16]
     obtain rfl := sI h
     have h := hk1 _ (.inr (ho1 (fun _ hs => nomatch hs)))
     refine X_exit ?_
     try simp -implicitDefEqProofs only [go_sem, ↓reduceIte, Nat.reduceEqDiff, reduceCtorEq]
     refine kJ_in ?_ ⟨x2, x3, h, rfl, rfl⟩
     exact To.mv [(0, 0)] (BaseR.refl hob) (by simp) (by decide) (by simp only [go_sem]; exact ⟨VM.rowL (j := 0) (t := 0) rfl (by first | rfl | simp | simp_all | omega), vS⟩) ⟨⟨_, rfl, OM.row' (by first | rfl | simp_all)⟩, trivial⟩
    ·rw [if_pos f16] at h
     refine X_cond (lx_ok γ) ?_
     simp -implicitDefEqProofs only [go_sem, seval, f2, f16]
     refine X_skip ?_
     try simp -implicitDefEqProofs only [go_sem]
     refine X_seq ?_
     refine X_block ?_
     refine X_sr (lx_ok γ) ?_
     obtain ⟨x8, f17, h⟩ := bindE h
     obtain ⟨f18, f19, f20⟩ := ixL_some f17
     try simp only [Int.toNat_natCast, Int.reduceToNat] at f20
     simp -implicitDefEqProofs only [go_sem, seval, f2, f16, f18, f19, f20]
     refine X_sr (lx_ok γ) ?_
     obtain ⟨x9, f21, h⟩ := bindE h
     simp -implicitDefEqProofs only [go_sem, seval, f2, f16]
     refine callV_fn (hf1 _ (List.prefix_append _ _) _ _ f21) rfl rfl ?_
     simp -implicitDefEqProofs only [go_sem, seval, f2, f16]
     cases f22 : x9
     ·rw [if_neg (nF f22)] at h
      refine X_cond (lx_ok γ) ?_
      simp -implicitDefEqProofs only [go_sem, seval, f2, f16, f22]
      refine X_sr (lx_ok γ) ?_
      obtain ⟨x10, f23, h⟩ := bindE h
      obtain ⟨f24, f25, f26⟩ := ixL_some f23
      try simp only [Int.toNat_natCast, Int.reduceToNat] at f26
      obtain ⟨x11, f27, h⟩ := bindE h
      have f28 : List.set (List.map e_Edge x2) (Int.toNat x3) [.lit (.int .i64 x8.From), .lit (.int .i64 x8.To)] = List.map e_Edge x11 := by rw [(updL_some f27).2.2]; simp [eB, eI, eS, e_Edge]
      have f29 : List.length x11 = List.length x2 := by rw [(updL_some f27).2.2]; simp
      have f30 : (Int.toNat x3) < List.length x2 := by have := (updL_some f27).1; have := (updL_some f27).2.1; omega
      simp -implicitDefEqProofs only [go_sem, seval, f2, f16, f22, f24, f25, f26, f28, f30]
      refine X.to (as' := [(0, V.row ob.length 0 0 (List.length x11)), (1, w1), (5, vint .i64 x3), (6, vint .i64 x4)]) (ob' := ob ++ [some (O.row 2 0 (List.map e_Edge x11))]) ?_ ?_
      ·exact To.mv [(0, 0)] (BaseR.refl hob) (by simp) (by decide) (by simp only [go_sem]; exact ⟨VM.rowL (j := 0) (t := 0) rfl (by first | rfl | simp | simp_all | omega), VM.self (by simpa using hb w1 (by simp)), vS, vS⟩) ⟨⟨_, rfl, OM.row' (by first | rfl | simp_all)⟩, trivial⟩
      refine X_reg (lx_ok γ) ?_
      simp -implicitDefEqProofs only [go_sem, seval, f2, f16, f22]
      refine X_reg (lx_ok γ) ?_
      obtain rfl := sI h
      simp -implicitDefEqProofs only [go_sem, seval, f2, f16, f22]
      refine kR_in rfl ?_ ⟨rfl, rfl⟩
      exact To.mv [(0, 0)] (BaseR.refl hob) (by simp) (by decide) (by simp only [go_sem]; exact ⟨VM.rowL (j := 0) (t := 0) rfl (by first | rfl | simp | simp_all | omega), VM.self (by simpa using hb w1 (by simp)), vS, vS⟩) ⟨⟨_, rfl, OM.row' (by first | rfl | simp_all)⟩, trivial⟩
     ·rw [if_pos f22] at h
      refine X_cond (lx_ok γ) ?_
      simp -implicitDefEqProofs only [go_sem, seval, f2, f16, f22]
      refine X_skip ?_
      try simp -implicitDefEqProofs only [go_sem]
      refine X_reg (lx_ok γ) ?_
      obtain rfl := sI h
      simp -implicitDefEqProofs only [go_sem, seval, f2, f16, f22]
      refine kR_in rfl ?_ ⟨rfl, rfl⟩
      exact To.mv [(0, 0)] (BaseR.refl hob) (by simp) (by decide) (by simp only [go_sem]; exact ⟨VM.rowL (j := 0) (t := 0) rfl (by first | rfl | simp | simp_all | omega), VM.self (by simpa using hb w1 (by simp)), vS, vS⟩) ⟨⟨_, rfl, OM.row' (by first | rfl | simp_all)⟩, trivial⟩
 ·rw [if_pos f2] at h
  refine X_cond (lx_ok γ) ?_
  simp -implicitDefEqProofs only [go_sem, seval, f2]
  refine X_sr (lx_ok γ) ?_
  simp -implicitDefEqProofs only [go_sem, seval, f2]
  obtain rfl := sI h
  refine X_ret ?_
  simp -implicitDefEqProofs only [go_sem, seval, f2]
  refine Rt.trans (Rt.freeze (by simp only [go_sem, ↓reduceIte, Nat.reduceAdd, Nat.reduceEqDiff, frz, frzL]; rfl)) ?_
  simp -implicitDefEqProofs only [go_sem, seval, f2]
  exact Rt.mv0 (BaseR.refl hob) (by simp) (vS)
end Go.Pf
end
section
set_option maxRecDepth 100000
namespace Go.Pf
open Go Go.Ab Go.Pp Go.Proofs Go.Proofs.S04
attribute [local go_sem] Lxτ Lxγ gam0 Int.toNat_natCast tau3 tau28 tau29 tau31 tau35 tau42 tau44 tau83 eI eB eS e_Ins e_Block e_Func e_Prog e_code_writer e_code_reader e_Edge
set_option maxHeartbeats 1000000 in
theorem edge_Critical_1_ok (γ : GT) (ob : OT) {a0 : Edge} {o1 : Nat} {a1 : List Int} {o2 : Nat} {a2 : Func} (hx1 : getO ob o1 = some (O.box [V.tr (.sl 1 false (List.map (eI .i64) a1))])) (hx2 : getO ob o2 = some (O.box [V.tr (.sl 1 false (List.map (eI .i64) a2.Kinds)), V.tr (.sl 1 false (List.map (eI .i64) a2.Base)), vint .i64 a2.Params, vint .i64 a2.Result, V.tr (.sl 1 false (List.map e_Block a2.Blocks))])) {r : Bool} (h : edge_Critical_1 a0 a1 a2 = some r) :
  Valid (Lx γ) 68 [V.agg [vint .i64 a0.From, vint .i64 a0.To], V.ref o1 0, V.ref o2 0] ob (vbool r) ob := by
 refine valid_X (lx_ok γ) (fn := Tryd.f68) (rs := [.tmp 4]) Tryd.func68 (by kernel_rfl) rfl rfl Tryd.ntmps68 rfl (by simp) fun hb hob => ?_
 have hoa1 := getO_lt hx1
 have hoa2 := getO_lt hx2
 rw [edge_Critical_1] at h
 refine X_sr (lx_ok γ) ?_
 simp -implicitDefEqProofs only [go_sem, seval, hx1, hx2, getO_ext hx1, getO_ext hx2]
 refine X_sr (lx_ok γ) ?_
 obtain ⟨x1, f1, h⟩ := bindE h
 obtain ⟨f2, f3, f4⟩ := ixL_some f1
 try simp only [Int.toNat_natCast, Int.reduceToNat] at f4
 cases f5 : decide (x1 < 2)
 ·rw [if_neg (nF f5)] at h
  obtain ⟨x2, f6, h⟩ := bindE h
  simp -implicitDefEqProofs only [go_sem, seval, f5, hx1, hx2, getO_ext hx1, getO_ext hx2, f2, f3, f4]
  refine callV_eq (flow_Next_ok γ _ (by simp -implicitDefEqProofs only [go_sem, seval, f5, hx1, hx2, getO_ext hx1, getO_ext hx2, f2, f3, f4]; try rfl) (by simp -implicitDefEqProofs only [go_sem, seval, f5, hx1, hx2, getO_ext hx1, getO_ext hx2, f2, f3, f4]; try rfl) (by simp -implicitDefEqProofs only [go_sem, seval, f5, hx1, hx2, getO_ext hx1, getO_ext hx2, f2, f3, f4]; try rfl) f6) rfl rfl ?_
  simp -implicitDefEqProofs only [go_sem, seval, f5, hx1, hx2, getO_ext hx1, getO_ext hx2, f2, f3, f4]
  obtain rfl := sI h
  refine X_ret ?_
  simp -implicitDefEqProofs only [go_sem, seval, f5, hx1, hx2, getO_ext hx1, getO_ext hx2, f2, f3, f4]
  exact Rt.mv0 (BaseR.refl hob) (by simp) (vS)
 ·rw [if_pos f5] at h
  simp -implicitDefEqProofs only [go_sem, seval, f5, hx1, hx2, getO_ext hx1, getO_ext hx2, f2, f3, f4]
  obtain rfl := sI h
  refine X_ret ?_
  simp -implicitDefEqProofs only [go_sem, seval, f5, hx1, hx2, getO_ext hx1, getO_ext hx2, f2, f3, f4]
  exact Rt.mv0 (BaseR.refl hob) (by simp) (vS)
end Go.Pf
end
section
set_option maxRecDepth 100000
namespace Go.Pf
open Go Go.Ab Go.Pp Go.Proofs Go.Proofs.S04
attribute [local go_sem] Lxτ Lxγ gam0 Int.toNat_natCast tau3 tau28 tau29 tau31 tau35 tau42 tau44 tau52 tau83 tau86 eI eB eS e_Ins e_Block e_Func e_Prog e_code_writer e_code_reader e_Edge
set_option maxHeartbeats 1000000 in
theorem edge_Critical_ok (γ : GT) (ob : OT) {a0 : Func} {r : List Edge} (h : edge_Critical a0 = some r) :
  Valid (Lx γ) 32 [V.agg [V.tr (.sl 1 false (List.map (eI .i64) a0.Kinds)), V.tr (.sl 1 false (List.map (eI .i64) a0.Base)), vint .i64 a0.Params, vint .i64 a0.Result, V.tr (.sl 1 false (List.map e_Block a0.Blocks))]] ob (V.tr (.sl 2 false (List.map e_Edge r))) ob := by
 refine valid_X (lx_ok γ) (fn := Tryd.f32) (rs := [.tmp 2]) Tryd.func32 (by kernel_rfl) rfl rfl Tryd.ntmps32 rfl (by simp) fun hb hob => ?_
 rw [edge_Critical] at h
 refine X_sr (lx_ok γ) ?_
 simp -implicitDefEqProofs only [go_sem, seval]
 refine X_sr (lx_ok γ) ?_
 obtain ⟨x1, f1, h⟩ := bindE h
 obtain ⟨f2, f3, f4, f5, f6⟩ := mkL_some f1
 have f7 : List.replicate (List.length a0.Blocks) [.lit (.int .i64 0)] = List.map (eI .i64) x1 := by rw [f5]; simp [eB, eI, eS]
 have f8 : List.length x1 = (List.length a0.Blocks) := by rw [f6]; simp
 have f9 : (List.length a0.Blocks : Int) * 8 ≤ 140737488355328 := by have := f4; omega
 simp -implicitDefEqProofs only [go_sem, seval, f2, f3, f4, f7, f8, f9]
 refine X_sr (lx_ok γ) ?_
 obtain ⟨x2, f10, h⟩ := bindE h
 simp -implicitDefEqProofs only [go_sem, seval, f8]
 refine callV_eq (flow_Edges_ok γ _ (by simp -implicitDefEqProofs only [go_sem, seval, f8]; try rfl) (by simp -implicitDefEqProofs only [go_sem, seval, f8]; try rfl) (by simp -implicitDefEqProofs only [go_sem, seval, f8]; try rfl) f10) rfl rfl ?_
 simp -implicitDefEqProofs only [go_sem, seval, f8]
 refine X_seq ?_
 refine X_sr (lx_ok γ) ?_
 simp -implicitDefEqProofs only [go_sem, seval, f8]
 refine X_jq (J := fun as1 ob1 => ∃ (x3 : List Int), edge_Critical.k1 a0 x2 x3 = some r ∧ [(1, V.ref ob.length 0), (3, V.ref (ob.length + 1) 0), (4, V.row (ob.length + 3) 0 0 (List.length x2))] = as1 ∧ ob ++ [some (O.box [V.tr (.sl 1 false (List.map (eI .i64) a0.Kinds)), V.tr (.sl 1 false (List.map (eI .i64) a0.Base)), vint .i64 a0.Params, vint .i64 a0.Result, V.tr (.sl 1 false (List.map e_Block a0.Blocks))]), some (O.box [V.row (ob.length + 2) 0 0 (List.length x3)]), some (O.row 1 0 (List.map (eI .i64) x3)), some (O.row 2 0 (List.map e_Edge x2))] = ob1) ?_ ?_
 ·rintro as1 ob1 ⟨x3, h, rfl, rfl⟩
  rw [edge_Critical.k1] at h
  simp -implicitDefEqProofs only [go_sem, seval]
  refine X_sr (lx_ok γ) ?_
  obtain ⟨x5, f11, h⟩ := bindE h
  simp -implicitDefEqProofs only [go_sem, seval]
  refine callV_eq (Valid.frzT (b := ob) (B := ob.length) (by simp) (l := [some (O.box [V.tr (.sl 1 false (List.map (eI .i64) a0.Kinds)), V.tr (.sl 1 false (List.map (eI .i64) a0.Base)), vint .i64 a0.Params, vint .i64 a0.Result, V.tr (.sl 1 false (List.map e_Block a0.Blocks))]), some (O.box [V.row (ob.length + 2) 0 0 (List.length x3)]), some (O.row 1 0 (List.map (eI .i64) x3)), some (O.row 2 0 (List.map e_Edge x2))]) (l' := [some (O.box [V.tr (.sl 1 false (List.map (eI .i64) a0.Kinds)), V.tr (.sl 1 false (List.map (eI .i64) a0.Base)), vint .i64 a0.Params, vint .i64 a0.Result, V.tr (.sl 1 false (List.map e_Block a0.Blocks))]), some (O.box [V.tr (.sl 1 false (List.map (eI .i64) x3))]), none, some (O.row 2 0 (List.map e_Edge x2))]) (args := [V.row (ob.length + 3) 0 0 (List.length x2), V.fn 68 [] [V.ref (ob.length + 1) 0, V.ref ob.length 0]]) (args' := [V.row (ob.length + 3) 0 0 (List.length x2), V.fn 68 [] [V.ref (ob.length + 1) 0, V.ref ob.length 0]]) 2 rfl ⟨VZ.refl, VZ.refl, trivial⟩ ⟨Or.inr ⟨by omega, _, _, rfl, rfl, .same _⟩, Or.inr ⟨by omega, _, _, rfl, rfl, .box _ _ ⟨VZ.row (by first | rfl | simp | simp_all), trivial⟩⟩, Or.inl rfl, Or.inr ⟨by omega, _, _, rfl, rfl, .same _⟩, trivial⟩ (slices_DeleteFunc_Edge_ok γ _ (by simp -implicitDefEqProofs only [go_sem, seval]; try rfl) (fun ob1 hp y0 r hx => by obtain ⟨l, rfl⟩ := hp; exact edge_Critical_1_ok γ _ (by simp -implicitDefEqProofs only [go_sem, seval]; try rfl) (by simp -implicitDefEqProofs only [go_sem, seval]; try rfl) hx) f11)) rfl rfl ?_
  simp -implicitDefEqProofs only [go_sem, seval]
  obtain rfl := sI h
  refine X_ret ?_
  simp -implicitDefEqProofs only [go_sem, seval]
  exact Rt.mv0 (BaseR.refl hob) (by simp) (vS)
 ·refine X_block ?_
  obtain ⟨lr1, hl1, hk1, hr1⟩ := aft2 h
  refine X_forN hl1 (fun (i1 : Nat) (s : (List Int)) as1 ob1 => [(1, V.ref ob.length 0), (3, V.ref (ob.length + 1) 0), (4, V.row (ob.length + 3) 0 0 (List.length x2)), (13, V.row (ob.length + 3) 0 0 (List.length x2)), (14, vint .i64 (List.length x2 : Int)), (15, vint .i64 (i1 : Int))] = as1 ∧ ob ++ [some (O.box [V.tr (.sl 1 false (List.map (eI .i64) a0.Kinds)), V.tr (.sl 1 false (List.map (eI .i64) a0.Base)), vint .i64 a0.Params, vint .i64 a0.Result, V.tr (.sl 1 false (List.map e_Block a0.Blocks))]), some (O.box [V.row (ob.length + 2) 0 0 (List.length s)]), some (O.row 1 0 (List.map (eI .i64) s)), some (O.row 2 0 (List.map e_Edge x2))] = ob1) ⟨_, _, ?_, rfl, rfl⟩ ?_ ?_
  ·exact To.mv [(0, 0), (2, 0), (1, 0), (3, 0)] (BaseR.refl hob) (by simp) (by decide) (by simp only [go_sem]; exact ⟨VM.refA (j := 0) (t := 0) rfl, VM.refA (j := 2) (t := 1) rfl, VM.rowL (j := 3) (t := 3) rfl (by first | rfl | simp | simp_all | omega), VM.rowL (j := 3) (t := 3) rfl (by first | rfl | simp | simp_all | omega), vS, VM.eqv (by simp) (by simp)⟩) ⟨⟨_, rfl, OM.box _ _ ⟨vS, vS, vS, vS, vS, trivial⟩⟩, ⟨_, rfl, OM.box _ _ ⟨VM.rowL (j := 1) (t := 2) rfl (by first | rfl | simp | simp_all | omega), trivial⟩⟩, ⟨_, rfl, OM.row' (by first | rfl | simp_all)⟩, ⟨_, rfl, OM.row' (by first | rfl | simp_all)⟩, trivial⟩
  ·rintro i1 x3 o1 hi1 hw1 h ho1 as1 ob1 ⟨rfl, rfl⟩
   rw [edge_Critical.b1] at h
   refine X_sr (lx_ok γ) ?_
   simp -implicitDefEqProofs only [go_sem, seval, hi1]
   refine X_seq ?_
   refine X_cond (lx_ok γ) ?_
   simp -implicitDefEqProofs only [go_sem, seval, hi1]
   refine X_skip ?_
   try simp -implicitDefEqProofs only [go_sem]
   refine X_seq ?_
   refine X_block ?_
   refine X_sr (lx_ok γ) ?_
   obtain ⟨x6, f12, h⟩ := bindE h
   obtain ⟨f13, f14⟩ := ixL_nat f12
   have f15 : (0 : Int) ≤ (i1 : Int) := Int.natCast_nonneg _
   simp -implicitDefEqProofs only [go_sem, seval, hi1, f13, f14, f15]
   refine X_reg (lx_ok γ) ?_
   obtain ⟨x7, f16, h⟩ := bindE h
   obtain ⟨f17, f18, f19⟩ := ixL_some f16
   try simp only [Int.toNat_natCast, Int.reduceToNat] at f19
   obtain ⟨x8, f20, h⟩ := bindE h
   have f21 : List.set (List.map (eI .i64) x3) (Int.toNat x6.To) [.lit (.int .i64 (w64 (x7 + 1)))] = List.map (eI .i64) x8 := by rw [(updL_some f20).2.2]; simp [eB, eI, eS]
   have f22 : List.length x8 = List.length x3 := by rw [(updL_some f20).2.2]; simp
   have f23 : (Int.toNat x6.To) < List.length x3 := by have := (updL_some f20).1; have := (updL_some f20).2.1; omega
   simp -implicitDefEqProofs only [go_sem, seval, hi1, f17, f18, f19, f21, f23]
   refine X.to (as' := [(1, V.ref ob.length 0), (3, V.ref (ob.length + 1) 0), (4, V.row (ob.length + 3) 0 0 (List.length x2)), (13, V.row (ob.length + 3) 0 0 (List.length x2)), (14, vint .i64 (List.length x2 : Int)), (15, vint .i64 (i1 : Int))]) (ob' := ob ++ [some (O.box [V.tr (.sl 1 false (List.map (eI .i64) a0.Kinds)), V.tr (.sl 1 false (List.map (eI .i64) a0.Base)), vint .i64 a0.Params, vint .i64 a0.Result, V.tr (.sl 1 false (List.map e_Block a0.Blocks))]), some (O.box [V.row (ob.length + 2) 0 0 (List.length x8)]), some (O.row 1 0 (List.map (eI .i64) x8)), some (O.row 2 0 (List.map e_Edge x2))]) ?_ ?_
   ·exact To.mv [(0, 0), (1, 0), (2, 0), (3, 0)] (BaseR.refl hob) (by simp) (by decide) (by simp only [go_sem]; exact ⟨VM.refA (j := 0) (t := 0) rfl, VM.refA (j := 1) (t := 1) rfl, VM.rowL (j := 3) (t := 3) rfl (by first | rfl | simp | simp_all | omega), VM.rowL (j := 3) (t := 3) rfl (by first | rfl | simp | simp_all | omega), vS, vS⟩) ⟨⟨_, rfl, OM.box _ _ ⟨vS, vS, vS, vS, vS, trivial⟩⟩, ⟨_, rfl, OM.box _ _ ⟨VM.rowL (j := 2) (t := 2) rfl (by first | rfl | simp | simp_all | omega), trivial⟩⟩, ⟨_, rfl, OM.row' (by first | rfl | simp_all)⟩, ⟨_, rfl, OM.row' (by first | rfl | simp_all)⟩, trivial⟩
   refine X_reg (lx_ok γ) ?_
   obtain rfl := sI h
   simp -implicitDefEqProofs only [go_sem, seval, hi1]
   refine kR_in rfl ?_ ⟨rfl, rfl⟩
   exact To.mv [(0, 0), (1, 0), (2, 0), (3, 0)] (BaseR.refl hob) (by simp) (by decide) (by simp only [go_sem]; exact ⟨VM.refA (j := 0) (t := 0) rfl, VM.refA (j := 1) (t := 1) rfl, VM.rowL (j := 3) (t := 3) rfl (by first | rfl | simp | simp_all | omega), VM.rowL (j := 3) (t := 3) rfl (by first | rfl | simp | simp_all | omega), vS, VM.eqv (by rw [hw1]) (by simp)⟩) ⟨⟨_, rfl, OM.box _ _ ⟨vS, vS, vS, vS, vS, trivial⟩⟩, ⟨_, rfl, OM.box _ _ ⟨VM.rowL (j := 2) (t := 2) rfl (by first | rfl | simp | simp_all | omega), trivial⟩⟩, ⟨_, rfl, OM.row' (by first | rfl | simp_all)⟩, ⟨_, rfl, OM.row' (by first | rfl | simp_all)⟩, trivial⟩
  ·rintro i1 x3 hi1 hn1 as1 ob1 ⟨rfl, rfl⟩
   refine X_sr (lx_ok γ) ?_
   simp -implicitDefEqProofs only [go_sem, seval, hi1]
   refine X_seq ?_
   refine X_cond (lx_ok γ) ?_
   simp -implicitDefEqProofs only [go_sem, seval, hi1]
   have h := hk1 _ (.inl hn1)
   refine X_exit ?_
   try simp -implicitDefEqProofs only [go_sem, ↓reduceIte, Nat.reduceEqDiff, reduceCtorEq]
   refine kJ_in ?_ ⟨x3, h, rfl, rfl⟩
   exact To.mv [(0, 0), (1, 0), (2, 0), (3, 0)] (BaseR.refl hob) (by simp) (by decide) (by simp only [go_sem]; exact ⟨VM.refA (j := 0) (t := 0) rfl, VM.refA (j := 1) (t := 1) rfl, VM.rowL (j := 3) (t := 3) rfl (by first | rfl | simp | simp_all | omega)⟩) ⟨⟨_, rfl, OM.box _ _ ⟨vS, vS, vS, vS, vS, trivial⟩⟩, ⟨_, rfl, OM.box _ _ ⟨VM.rowL (j := 2) (t := 2) rfl (by first | rfl | simp | simp_all | omega), trivial⟩⟩, ⟨_, rfl, OM.row' (by first | rfl | simp_all)⟩, ⟨_, rfl, OM.row' (by first | rfl | simp_all)⟩, trivial⟩
end Go.Pf
end
section
set_option maxRecDepth 100000
namespace Go.Pf
open Go Go.Ab Go.Pp Go.Proofs Go.Proofs.S04
attribute [local go_sem] Lxτ Lxγ gam0 Int.toNat_natCast tau3 tau28 tau29 tau35 tau42 tau44 eI eB eS e_Ins e_Block e_Func e_Prog e_code_writer e_code_reader e_Edge
theorem slices_Clone_Block_ok (γ : GT) (ob : OT) {a0 : List Block} {v0 : V} (hv0 : rdK (getO ob) 1 v0 = some (List.map e_Block a0)) {r : List Block} (h : slices_Clone_Block a0 = some r) :
  Valid (Lx γ) 88 [v0] ob (V.row ob.length 0 0 (List.length r)) (ob ++ [some (O.row 1 0 (List.map e_Block r))]) := by
 rw [slices_Clone_Block] at h
 have hn : List.length a0 * 24 ≤ 140737488355328 := by simpa using (appL_some h).1
 obtain rfl : r = a0 := by simpa using (appL_some h).2
 refine valid_W (lx_ok γ) (fn := Tryd.f88) (rs := [.tmp 2]) Tryd.func88 (by kernel_rfl) rfl rfl Tryd.ntmps88 (Nat.le_of_ble_eq_true rfl) (by simp) fun hb hob => ?_
 obtain ⟨k', hs⟩ := rdK_rdS hv0
 simp -implicitDefEqProofs only [go_sem, seval, hs, rdK_app hv0, hv0, hn]
 refine ⟨fun h0 => ?_, ?_⟩
 ·have : r = [] := by simpa using h0
  subst this
  exact Rt.nilRow
 ·exact Rt.row (j := 0) hob rfl rfl
end Go.Pf
end
section
set_option maxRecDepth 100000
namespace Go.Pf
open Go Go.Ab Go.Pp Go.Proofs Go.Proofs.S04
attribute [local go_sem] Lxτ Lxγ gam0 Int.toNat_natCast tau3 tau28 tau35 tau42 eI eB eS e_Ins e_Block e_Func e_Prog e_code_writer e_code_reader e_Edge
theorem slices_Clone_Ins_ok (γ : GT) (ob : OT) {a0 : List Ins} {v0 : V} (hv0 : rdK (getO ob) 7 v0 = some (List.map e_Ins a0)) {r : List Ins} (h : slices_Clone_Ins a0 = some r) :
  Valid (Lx γ) 110 [v0] ob (V.row ob.length 0 0 (List.length r)) (ob ++ [some (O.row 7 0 (List.map e_Ins r))]) := by
 rw [slices_Clone_Ins] at h
 have hn : List.length a0 * 72 ≤ 140737488355328 := by simpa using (appL_some h).1
 obtain rfl : r = a0 := by simpa using (appL_some h).2
 refine valid_W (lx_ok γ) (fn := Tryd.f110) (rs := [.tmp 2]) Tryd.func110 (by kernel_rfl) rfl rfl Tryd.ntmps110 (Nat.le_of_ble_eq_true rfl) (by simp) fun hb hob => ?_
 obtain ⟨k', hs⟩ := rdK_rdS hv0
 simp -implicitDefEqProofs only [go_sem, seval, hs, rdK_app hv0, hv0, hn]
 refine ⟨fun h0 => ?_, ?_⟩
 ·have : r = [] := by simpa using h0
  subst this
  exact Rt.nilRow
 ·exact Rt.row (j := 0) hob rfl rfl
end Go.Pf
end
section
set_option maxRecDepth 100000
namespace Go.Pf
open Go Go.Ab Go.Pp Go.Proofs Go.Proofs.S04
attribute [local go_sem] Lxτ Lxγ gam0 Int.toNat_natCast tau3 tau28 tau35 tau42 tau44 eI eB eS e_Ins e_Block e_Func e_Prog e_code_writer e_code_reader e_Edge
set_option maxHeartbeats 1000000 in
theorem edge_lead_ok (γ : GT) (ob : OT) {a0 : Block} {v0_0 : V} {a1 : Int} {a2 : Int} (hv0_0 : rdK (getO ob) 7 v0_0 = some (List.map e_Ins a0.Code)) {r : Block} (h : edge_lead a0 a1 a2 = some r) :
  Valid (Lx γ) 89 [V.agg [v0_0], vint .i64 a1, vint .i64 a2] ob (V.agg [V.row ob.length 0 0 (List.length r.Code)]) (ob ++ [some (O.row 7 0 (List.map e_Ins r.Code))]) := by
 refine valid_X (lx_ok γ) (fn := Tryd.f89) (rs := [.cell 6 44]) Tryd.func89 (by kernel_rfl) rfl rfl Tryd.ntmps89 rfl (by simp) fun hb hob => ?_
 have hq := rd4 hv0_0
 rw [edge_lead] at h
 refine X_sr (lx_ok γ) ?_
 simp -implicitDefEqProofs only [go_sem, seval, hq]
 refine X_sr (lx_ok γ) ?_
 obtain ⟨x1, f1, h⟩ := bindE h
 simp -implicitDefEqProofs only [go_sem, seval, hq]
 refine callV_eq (slices_Clone_Ins_ok γ _ (by first | exact rdK_app hv0_0 | exact hv0_0) f1) rfl rfl ?_
 simp -implicitDefEqProofs only [go_sem, seval, hq]
 refine X_sr (lx_ok γ) ?_
 obtain ⟨x2, f2, h⟩ := bindE h
 obtain ⟨f3, f4, f5⟩ := ixL_some f2
 try simp only [Int.toNat_natCast, Int.reduceToNat] at f5
 simp -implicitDefEqProofs only [go_sem, seval, hq, f3, f4, f5]
 refine X_seq ?_
 refine X_sr (lx_ok γ) ?_
 simp -implicitDefEqProofs only [go_sem, seval, hq, f3, f4, f5]
 cases f6 : (x2.N == a1)
 ·rw [if_neg (nF f6)] at h
  refine X_cond (lx_ok γ) ?_
  simp -implicitDefEqProofs only [go_sem, seval, f6, hq, f3, f4, f5]
  refine X_reg (lx_ok γ) ?_
  obtain ⟨x3, f7, h⟩ := bindE h
  have f8 : List.set (List.map e_Ins x1) (Int.toNat (w64 ((List.length x1 : Int) - 1))) [.lit (.int .i64 x2.Op), .lit (.int .i64 x2.D), .lit (.int .i64 x2.A), .lit (.int .i64 x2.B), .lit (.int .i64 x2.N), .lit (.int .i64 a2), .sl 1 false (List.map (eI .i64) x2.Args)] = List.map e_Ins x3 := by rw [(updL_some f7).2.2]; simp [eB, eI, eS, e_Ins]
  have f9 : List.length x3 = List.length x1 := by rw [(updL_some f7).2.2]; simp
  have f10 : (Int.toNat (w64 ((List.length x1 : Int) - 1))) < List.length x1 := by have := (updL_some f7).1; have := (updL_some f7).2.1; omega
  simp -implicitDefEqProofs only [go_sem, seval, f6, hq, f3, f4, f5, f8, f10]
  refine X.to (as' := [(6, V.ref ob.length 0), (7, V.row (ob.length + 1) 0 0 (List.length x3))]) (ob' := ob ++ [some (O.box [V.tr (.sl 0 true [])]), some (O.row 7 0 (List.map e_Ins x3))]) ?_ ?_
  ·exact To.mv [(1, 0), (2, 0)] (BaseR.refl hob) (by simp) (by decide) (by simp only [go_sem]; exact ⟨VM.refA (j := 1) (t := 0) rfl, VM.rowL (j := 2) (t := 1) rfl (by first | rfl | simp | simp_all | omega)⟩) ⟨⟨_, rfl, OM.box _ _ ⟨vS, trivial⟩⟩, ⟨_, rfl, OM.row' (by first | rfl | simp_all)⟩, trivial⟩
  refine X_sr (lx_ok γ) ?_
  simp -implicitDefEqProofs only [go_sem, seval, f6, hq]
  obtain rfl := sI h
  refine X_ret ?_
  simp -implicitDefEqProofs only [go_sem, seval, f6, hq]
  exact Rt.mv [(1, 0)] (BaseR.refl hob) (by simp) (by decide) (VM.agg ⟨VM.rowL (j := 1) (t := 0) rfl (by first | rfl | simp | simp_all | omega), trivial⟩) ⟨⟨_, rfl, OM.row' (by first | rfl | simp_all)⟩, trivial⟩
 ·rw [if_pos f6] at h
  refine X_cond (lx_ok γ) ?_
  simp -implicitDefEqProofs only [go_sem, seval, f6, hq, f3, f4, f5]
  refine X_reg (lx_ok γ) ?_
  obtain ⟨x4, f11, h⟩ := bindE h
  have f12 : List.set (List.map e_Ins x1) (Int.toNat (w64 ((List.length x1 : Int) - 1))) [.lit (.int .i64 x2.Op), .lit (.int .i64 x2.D), .lit (.int .i64 x2.A), .lit (.int .i64 x2.B), .lit (.int .i64 a2), .lit (.int .i64 x2.M), .sl 1 false (List.map (eI .i64) x2.Args)] = List.map e_Ins x4 := by rw [(updL_some f11).2.2]; simp [eB, eI, eS, e_Ins]
  have f13 : List.length x4 = List.length x1 := by rw [(updL_some f11).2.2]; simp
  have f14 : (Int.toNat (w64 ((List.length x1 : Int) - 1))) < List.length x1 := by have := (updL_some f11).1; have := (updL_some f11).2.1; omega
  simp -implicitDefEqProofs only [go_sem, seval, f6, hq, f3, f4, f5, f12, f14]
  refine X.to (as' := [(6, V.ref ob.length 0), (7, V.row (ob.length + 1) 0 0 (List.length x4))]) (ob' := ob ++ [some (O.box [V.tr (.sl 0 true [])]), some (O.row 7 0 (List.map e_Ins x4))]) ?_ ?_
  ·exact To.mv [(1, 0), (2, 0)] (BaseR.refl hob) (by simp) (by decide) (by simp only [go_sem]; exact ⟨VM.refA (j := 1) (t := 0) rfl, VM.rowL (j := 2) (t := 1) rfl (by first | rfl | simp | simp_all | omega)⟩) ⟨⟨_, rfl, OM.box _ _ ⟨vS, trivial⟩⟩, ⟨_, rfl, OM.row' (by first | rfl | simp_all)⟩, trivial⟩
  refine X_sr (lx_ok γ) ?_
  simp -implicitDefEqProofs only [go_sem, seval, f6, hq]
  obtain rfl := sI h
  refine X_ret ?_
  simp -implicitDefEqProofs only [go_sem, seval, f6, hq]
  exact Rt.mv [(1, 0)] (BaseR.refl hob) (by simp) (by decide) (VM.agg ⟨VM.rowL (j := 1) (t := 0) rfl (by first | rfl | simp | simp_all | omega), trivial⟩) ⟨⟨_, rfl, OM.row' (by first | rfl | simp_all)⟩, trivial⟩
end Go.Pf
end
section
set_option maxRecDepth 100000
namespace Go.Pf
open Go Go.Ab Go.Pp Go.Proofs Go.Proofs.S04
attribute [local go_sem] Lxτ Lxγ gam0 Int.toNat_natCast tau3 tau28 tau29 tau31 tau35 tau42 tau44 tau52 tau83 eI eB eS e_Ins e_Block e_Func e_Prog e_code_writer e_code_reader e_Edge
set_option maxHeartbeats 1000000 in
theorem edge_Split_ok (γ : GT) (ob : OT) {a0 : Func} {r : Func × Int} (h : edge_Split a0 = some r) :
  Valid (Lx γ) 65 [V.agg [V.tr (.sl 1 false (List.map (eI .i64) a0.Kinds)), V.tr (.sl 1 false (List.map (eI .i64) a0.Base)), vint .i64 a0.Params, vint .i64 a0.Result, V.tr (.sl 1 false (List.map e_Block a0.Blocks))]] ob (V.tup [V.agg [V.tr (.sl 1 false (List.map (eI .i64) r.1.Kinds)), V.tr (.sl 1 false (List.map (eI .i64) r.1.Base)), vint .i64 r.1.Params, vint .i64 r.1.Result, V.tr (.sl 1 false (List.map e_Block r.1.Blocks))], vint .i64 r.2]) ob := by
 refine valid_X (lx_ok γ) (fn := Tryd.f65) (rs := [.cell 2 31, .tmp 3]) Tryd.func65 (by kernel_rfl) rfl rfl Tryd.ntmps65 rfl (by simp) fun hb hob => ?_
 rw [edge_Split] at h
 refine X_sr (lx_ok γ) ?_
 simp -implicitDefEqProofs only [go_sem, seval]
 refine X_sr (lx_ok γ) ?_
 obtain ⟨x1, f1, h⟩ := bindE h
 simp -implicitDefEqProofs only [go_sem, seval]
 refine callV_eq (edge_Critical_ok γ _  f1) rfl rfl ?_
 simp -implicitDefEqProofs only [go_sem, seval]
 refine X_seq ?_
 refine X_sr (lx_ok γ) ?_
 simp -implicitDefEqProofs only [go_sem, seval]
 cases f2 : decide (40 < w64 ((List.length a0.Blocks : Int) + (List.length x1 : Int)))
 ·rw [if_neg (nF f2)] at h
  refine X_cond (lx_ok γ) ?_
  simp -implicitDefEqProofs only [go_sem, seval, f2]
  refine X_skip ?_
  try simp -implicitDefEqProofs only [go_sem]
  refine X_sr (lx_ok γ) ?_
  obtain ⟨x2, f3, h⟩ := bindE h
  simp -implicitDefEqProofs only [go_sem, seval, f2]
  refine callV_eq (slices_Clone_Block_ok γ _ (by simp -implicitDefEqProofs only [go_sem, seval, f2]; try rfl) f3) rfl rfl ?_
  simp -implicitDefEqProofs only [go_sem, seval, f2]
  refine X_seq ?_
  refine X_sr (lx_ok γ) ?_
  simp -implicitDefEqProofs only [go_sem, seval, f2]
  refine X_jq (J := fun as1 ob1 => ∃ (x3 : List Block), edge_Split.k1 a0 x3 = some r ∧ [(1, V.ref ob.length 0), (2, V.ref (ob.length + 2) 0)] = as1 ∧ ob ++ [some (O.box [V.tr (.sl 1 false (List.map (eI .i64) a0.Kinds)), V.tr (.sl 1 false (List.map (eI .i64) a0.Base)), vint .i64 a0.Params, vint .i64 a0.Result, V.row (ob.length + 1) 0 0 (List.length x3)]), some (O.row 1 0 (List.map e_Block x3)), some (O.box [V.tr (.sl 0 true []), V.tr (.sl 0 true []), vint .i64 0, vint .i64 0, V.tr (.sl 0 true [])])] = ob1) ?_ ?_
  ·rintro as1 ob1 ⟨x3, h, rfl, rfl⟩
   rw [edge_Split.k1] at h
   simp -implicitDefEqProofs only [go_sem, seval, f2]
   refine X_sr (lx_ok γ) ?_
   simp -implicitDefEqProofs only [go_sem, seval, f2]
   obtain rfl := sI h
   refine X_ret ?_
   simp -implicitDefEqProofs only [go_sem, seval, f2]
   refine Rt.trans (Rt.freeze (by simp only [go_sem, ↓reduceIte, Nat.reduceAdd, Nat.reduceEqDiff, frz, frzL]; rfl)) ?_
   simp -implicitDefEqProofs only [go_sem, seval, f2]
   exact Rt.mv0 (BaseR.refl hob) (by simp) (VM.tup ⟨VM.agg ⟨vS, vS, vS, vS, vS, trivial⟩, vS, trivial⟩)
  ·refine X_block ?_
   obtain ⟨lr1, hl1, hk1, hr1⟩ := aft2 h
   refine X_forN hl1 (fun (i1 : Nat) (s : (List Block)) as1 ob1 => [(1, V.ref ob.length 0), (2, V.ref (ob.length + 2) 0), (21, V.tr (.sl 2 false (List.map e_Edge x1))), (22, vint .i64 (List.length x1 : Int)), (23, vint .i64 (i1 : Int))] = as1 ∧ ob ++ [some (O.box [V.tr (.sl 1 false (List.map (eI .i64) a0.Kinds)), V.tr (.sl 1 false (List.map (eI .i64) a0.Base)), vint .i64 a0.Params, vint .i64 a0.Result, V.row (ob.length + 1) 0 0 (List.length s)]), some (O.row 1 0 (List.map e_Block s)), some (O.box [V.tr (.sl 0 true []), V.tr (.sl 0 true []), vint .i64 0, vint .i64 0, V.tr (.sl 0 true [])])] = ob1) ⟨_, _, ?_, rfl, rfl⟩ ?_ ?_
   ·exact To.mv [(0, 0), (2, 0), (1, 0)] (BaseR.refl hob) (by simp) (by decide) (by simp only [go_sem]; exact ⟨VM.refA (j := 0) (t := 0) rfl, VM.refA (j := 1) (t := 2) rfl, vS, vS, VM.eqv (by simp) (by simp)⟩) ⟨⟨_, rfl, OM.box _ _ ⟨vS, vS, vS, vS, VM.rowL (j := 2) (t := 1) rfl (by first | rfl | simp | simp_all | omega), trivial⟩⟩, ⟨_, rfl, OM.row' (by first | rfl | simp_all)⟩, ⟨_, rfl, OM.box _ _ ⟨vS, vS, vS, vS, vS, trivial⟩⟩, trivial⟩
   ·rintro i1 x3 o1 hi1 hw1 h ho1 as1 ob1 ⟨rfl, rfl⟩
    rw [edge_Split.b1] at h
    refine X_sr (lx_ok γ) ?_
    simp -implicitDefEqProofs only [go_sem, seval, f2, hi1]
    refine X_seq ?_
    refine X_cond (lx_ok γ) ?_
    simp -implicitDefEqProofs only [go_sem, seval, f2, hi1]
    refine X_skip ?_
    try simp -implicitDefEqProofs only [go_sem]
    refine X_seq ?_
    refine X_block ?_
    refine X_sr (lx_ok γ) ?_
    obtain ⟨x5, f4, h⟩ := bindE h
    obtain ⟨f5, f6⟩ := ixL_nat f4
    have f7 : (0 : Int) ≤ (i1 : Int) := Int.natCast_nonneg _
    simp -implicitDefEqProofs only [go_sem, seval, f2, hi1, f5, f6, f7]
    refine X_seq ?_
    refine X_drawn (lx_ok γ) [[], [0], [], [2], [], [4], [], [6], [4, 5, 6, 7], [4, 5, 6, 7, 8], [], [10], [], [12], [12, 13], [4, 5, 6, 7, 8, 9, 10, 11, 12, 13, 14], [0, 1, 2, 3, 4, 5, 6, 7, 8, 9, 10, 11, 12, 13, 14, 15], [0, 1, 2, 3, 4, 5, 6, 7, 8, 9, 10, 11, 12, 13, 14, 15, 16]] (fun i => match i with | 15 => true | 17 => true | _ => false) (by kernel_rfl) ?_
    obtain ⟨x6, f8, h⟩ := bindE h
    obtain ⟨f9, f10, f11⟩ := ixL_some f8
    try simp only [Int.toNat_natCast, Int.reduceToNat] at f11
    obtain ⟨x7, f12, h⟩ := bindE h
    try simp -implicitDefEqProofs only [go_sem, seval, f2, hi1, f9, f10, f11, cmpr, List.getD_cons_zero, List.getD_cons_succ, List.contains_cons, List.contains_nil, Nat.reduceBEq, Bool.false_or, Bool.or_false, Bool.true_or, Bool.or_true, beq_self_eq_true]
    refine callV_eq (Valid.toFv (res' := V.agg [V.tr (.sl 7 false (List.map e_Ins x7.Code))]) (edge_lead_ok γ _ (by simp -implicitDefEqProofs only [go_sem, seval, f2, hi1, f9, f10, f11]; try rfl) f12) (by simp -implicitDefEqProofs only [go_sem, seval, frz, frzL, toTr, rdS]; rfl) (by simp -implicitDefEqProofs only [go_sem, seval, upds]; rfl) (by simp)) rfl rfl ?_
    obtain ⟨x8, f13, h⟩ := bindE h
    have f14 : List.set (List.map e_Block x3) (Int.toNat x5.From) [.sl 7 false (List.map e_Ins x7.Code)] = List.map e_Block x8 := by rw [(updL_some f13).2.2]; simp [eB, eI, eS, e_Block]
    have f15 : List.length x8 = List.length x3 := by rw [(updL_some f13).2.2]; simp
    have f16 : (Int.toNat x5.From) < List.length x3 := by have := (updL_some f13).1; have := (updL_some f13).2.1; omega
    try simp -implicitDefEqProofs only [go_sem, seval, f2, hi1, f9, f10, f11, f14, f16, cmpr, List.getD_cons_zero, List.getD_cons_succ, List.contains_cons, List.contains_nil, Nat.reduceBEq, Bool.false_or, Bool.or_false, Bool.true_or, Bool.or_true, beq_self_eq_true]
    refine X.to (as' := [(1, V.ref ob.length 0), (2, V.ref (ob.length + 2) 0), (6, V.ref (ob.length + 3) 0), (21, V.tr (.sl 2 false (List.map e_Edge x1))), (22, vint .i64 (List.length x1 : Int)), (23, vint .i64 (i1 : Int))]) (ob' := ob ++ [some (O.box [V.tr (.sl 1 false (List.map (eI .i64) a0.Kinds)), V.tr (.sl 1 false (List.map (eI .i64) a0.Base)), vint .i64 a0.Params, vint .i64 a0.Result, V.row (ob.length + 1) 0 0 (List.length x8)]), some (O.row 1 0 (List.map e_Block x8)), some (O.box [V.tr (.sl 0 true []), V.tr (.sl 0 true []), vint .i64 0, vint .i64 0, V.tr (.sl 0 true [])]), some (O.box [vint .i64 x5.From, vint .i64 x5.To])]) ?_ ?_
    ·exact To.mv [(0, 0), (1, 0), (2, 0), (3, 0)] (BaseR.refl hob) (by simp) (by decide) (by simp only [go_sem]; exact ⟨VM.refA (j := 0) (t := 0) rfl, VM.refA (j := 2) (t := 2) rfl, VM.refA (j := 3) (t := 3) rfl, vS, vS, vS⟩) ⟨⟨_, rfl, OM.box _ _ ⟨vS, vS, vS, vS, VM.rowL (j := 1) (t := 1) rfl (by first | rfl | simp | simp_all | omega), trivial⟩⟩, ⟨_, rfl, OM.row' (by first | rfl | simp_all)⟩, ⟨_, rfl, OM.box _ _ ⟨vS, vS, vS, vS, vS, trivial⟩⟩, ⟨_, rfl, OM.box _ _ ⟨vS, vS, trivial⟩⟩, trivial⟩
    refine X_reg (lx_ok γ) ?_
    obtain ⟨x9, f17, h⟩ := bindE h
    have f18 : List.length x9 * 24 ≤ 140737488355328 := by have := (appL_some f17).1; rw [(appL_some f17).2]; simpa using this
    have f19 : List.length x8 + 1 = List.length x9 := by rw [(appL_some f17).2]; simp
    simp -implicitDefEqProofs only [go_sem, seval, f2, hi1, f18, f19]
    refine X.weak (b := ob) (l' := [some (O.box [V.tr (.sl 1 false (List.map (eI .i64) a0.Kinds)), V.tr (.sl 1 false (List.map (eI .i64) a0.Base)), vint .i64 a0.Params, vint .i64 a0.Result, V.row (ob.length + 1) 1 0 (List.length x9)]), some (O.row 1 1 (List.map e_Block x9)), some (O.box [V.tr (.sl 0 true []), V.tr (.sl 0 true []), vint .i64 0, vint .i64 0, V.tr (.sl 0 true [])]), none, none, none]) ?_ ?_
    ·exact ⟨Or.inr ⟨_, _, rfl, rfl, .same _⟩, Or.inr ⟨_, _, rfl, rfl, .row (by rw [(appL_some f17).2, List.map_append]; refine EsLe.app EsLe.refl ?_; simp only [List.map_cons, List.map_nil, eB, eI, eS, e_Block]; repeat' (first | exact trivial | exact TrLe.refl | exact TrLe.nil | refine TrLe.sl ?_ | refine ⟨?_, ?_⟩))⟩, Or.inr ⟨_, _, rfl, rfl, .same _⟩, Or.inl rfl, Or.inl rfl, Or.inl rfl, trivial⟩
    refine X_reg (lx_ok γ) ?_
    obtain rfl := sI h
    simp -implicitDefEqProofs only [go_sem, seval, f2, hi1]
    refine kR_in rfl ?_ ⟨rfl, rfl⟩
    exact To.mv [(0, 0), (1, 1), (2, 0)] (BaseR.refl hob) (by simp) (by decide) (by simp only [go_sem]; exact ⟨VM.refA (j := 0) (t := 0) rfl, VM.refA (j := 2) (t := 2) rfl, vS, vS, VM.eqv (by rw [hw1]) (by simp)⟩) ⟨⟨_, rfl, OM.box _ _ ⟨vS, vS, vS, vS, VM.rowL (j := 1) (t := 1) rfl (by first | rfl | simp | simp_all | omega), trivial⟩⟩, ⟨_, rfl, OM.row' (by first | rfl | simp_all)⟩, ⟨_, rfl, OM.box _ _ ⟨vS, vS, vS, vS, vS, trivial⟩⟩, trivial⟩
   ·rintro i1 x3 hi1 hn1 as1 ob1 ⟨rfl, rfl⟩
    refine X_sr (lx_ok γ) ?_
    simp -implicitDefEqProofs only [go_sem, seval, f2, hi1]
    refine X_seq ?_
    refine X_cond (lx_ok γ) ?_
    simp -implicitDefEqProofs only [go_sem, seval, f2, hi1]
    have h := hk1 _ (.inl hn1)
    refine X_exit ?_
    try simp -implicitDefEqProofs only [go_sem, ↓reduceIte, Nat.reduceEqDiff, reduceCtorEq]
    refine kJ_in ?_ ⟨x3, h, rfl, rfl⟩
    exact To.mv [(0, 0), (1, 0), (2, 0)] (BaseR.refl hob) (by simp) (by decide) (by simp only [go_sem]; exact ⟨VM.refA (j := 0) (t := 0) rfl, VM.refA (j := 2) (t := 2) rfl⟩) ⟨⟨_, rfl, OM.box _ _ ⟨vS, vS, vS, vS, VM.rowL (j := 1) (t := 1) rfl (by first | rfl | simp | simp_all | omega), trivial⟩⟩, ⟨_, rfl, OM.row' (by first | rfl | simp_all)⟩, ⟨_, rfl, OM.box _ _ ⟨vS, vS, vS, vS, vS, trivial⟩⟩, trivial⟩
 ·rw [if_pos f2] at h
  refine X_cond (lx_ok γ) ?_
  simp -implicitDefEqProofs only [go_sem, seval, f2]
  refine X_sr (lx_ok γ) ?_
  simp -implicitDefEqProofs only [go_sem, seval, f2]
  obtain rfl := sI h
  refine X_ret ?_
  simp -implicitDefEqProofs only [go_sem, seval, f2]
  exact Rt.mv0 (BaseR.refl hob) (by simp) (VM.tup ⟨VM.agg ⟨VM.nil _ _ _, VM.nil _ _ _, vS, vS, VM.nil _ _ _, trivial⟩, vS, trivial⟩)
end Go.Pf
end
section
set_option maxRecDepth 100000
namespace Go.Pf
open Go Go.Ab Go.Pp Go.Proofs Go.Proofs.S04
attribute [local go_sem] Lxτ Lxγ gam0 Int.toNat_natCast List.append_eq List.cons_append List.nil_append tau3 tau28 tau29 tau31 tau32 tau35 tau42 tau44 tau52 tau83 eI eB eS e_Ins e_Block e_Func e_Prog e_code_writer e_code_reader e_Edge
set_option maxHeartbeats 1000000 in
theorem portolanlaw13_alive_ok (γ : GT) (ob : OT)  {r : Bool} (h : portolanlaw13_alive = some r) :
  Valid (Lx γ) 29 [] ob (vbool r) ob := by
 refine valid_X (lx_ok γ) (fn := Tryd.f29) (rs := [.tmp 0]) Tryd.func29 (by kernel_rfl) rfl rfl Tryd.ntmps29 rfl (by simp) fun hb hob => ?_
 rw [portolanlaw13_alive] at h
 refine X_sr (lx_ok γ) ?_
 simp -implicitDefEqProofs only [go_sem, seval]
 refine X_sr (lx_ok γ) ?_
 simp -implicitDefEqProofs only [go_sem, seval]
 refine X.to (To.frz (as' := [(1, V.ref (ob.length + 6) 0)]) (l' := [none, _, none, none, none, _, some (O.box [V.tr (.sl 1 false (List.map (eI .i64) [0])), V.row (ob.length + 1) 0 0 1, vint .i64 0, vint .i64 0, V.row (ob.length + 5) 0 0 3])]) 0 rfl ⟨VZ.refl, trivial⟩ ⟨Or.inl rfl, Or.inr ⟨by omega, _, _, rfl, rfl, .same _⟩, Or.inl rfl, Or.inl rfl, Or.inl rfl, Or.inr ⟨by omega, _, _, rfl, rfl, .same _⟩, Or.inr ⟨by omega, _, _, rfl, rfl, .box _ _ ⟨VZ.rowN (by first | rfl | simp) (by repeat' (first | exact trivial | exact TrLe.refl | exact TrLe.nil | refine TrLe.sl ?_ | refine ⟨?_, ?_⟩)), VZ.refl, VZ.refl, VZ.refl, VZ.refl, trivial⟩⟩, trivial⟩) ?_
 refine X.to (To.frz (as' := [(1, V.ref (ob.length + 6) 0)]) (l' := [none, none, none, none, none, _, some (O.box [V.tr (.sl 1 false (List.map (eI .i64) [0])), V.tr (.sl 1 false (List.map (eI .i64) [(-1)])), vint .i64 0, vint .i64 0, V.row (ob.length + 5) 0 0 3])]) 1 rfl ⟨VZ.refl, trivial⟩ ⟨Or.inl rfl, Or.inl rfl, Or.inl rfl, Or.inl rfl, Or.inl rfl, Or.inr ⟨by omega, _, _, rfl, rfl, .same _⟩, Or.inr ⟨by omega, _, _, rfl, rfl, .box _ _ ⟨VZ.refl, VZ.rowN (by first | rfl | simp) (by repeat' (first | exact trivial | exact TrLe.refl | exact TrLe.nil | refine TrLe.sl ?_ | refine ⟨?_, ?_⟩)), VZ.refl, VZ.refl, VZ.refl, trivial⟩⟩, trivial⟩) ?_
 refine X.to (To.frz (as' := [(1, V.ref (ob.length + 6) 0)]) (l' := [none, none, none, none, none, none, some (O.box [V.tr (.sl 1 false (List.map (eI .i64) [0])), V.tr (.sl 1 false (List.map (eI .i64) [(-1)])), vint .i64 0, vint .i64 0, V.tr (.sl 1 false (List.map e_Block [Block.mk [Ins.mk 22 0 0 0 1 2 []], Block.mk [Ins.mk 21 0 0 0 2 0 []], Block.mk [Ins.mk 23 0 0 0 0 0 []]]))])]) 5 rfl ⟨VZ.refl, trivial⟩ ⟨Or.inl rfl, Or.inl rfl, Or.inl rfl, Or.inl rfl, Or.inl rfl, Or.inl rfl, Or.inr ⟨by omega, _, _, rfl, rfl, .box _ _ ⟨VZ.refl, VZ.refl, VZ.refl, VZ.refl, VZ.rowN (by first | rfl | simp) (by repeat' (first | exact trivial | exact TrLe.refl | exact TrLe.nil | refine TrLe.sl ?_ | refine ⟨?_, ?_⟩)), trivial⟩⟩, trivial⟩) ?_
 refine X_sr (lx_ok γ) ?_
 obtain ⟨x1, f1, h⟩ := bindE h
 simp -implicitDefEqProofs only [go_sem, seval]
 refine callV_eq (edge_Critical_ok γ _  f1) rfl rfl ?_
 simp -implicitDefEqProofs only [go_sem, seval]
 refine X_sr (lx_ok γ) ?_
 obtain ⟨x2, f2, h⟩ := bindE h
 simp -implicitDefEqProofs only [go_sem, seval]
 refine callV_eq (edge_Split_ok γ _  f2) rfl rfl ?_
 simp -implicitDefEqProofs only [go_sem, seval]
 refine X_sr (lx_ok γ) ?_
 cases f3 : (x2.2 == 0)
 ·rw [if_neg (nF f3)] at h
  simp -implicitDefEqProofs only [go_sem, seval, f3]
  obtain rfl := sI h
  refine X_ret ?_
  simp -implicitDefEqProofs only [go_sem, seval, f3]
  exact Rt.mv0 (BaseR.refl hob) (by simp) (vS)
 ·rw [if_pos f3] at h
  cases f4 : ((List.length x1 : Int) == 1)
  ·rw [if_neg (nF f4)] at h
   simp -implicitDefEqProofs only [go_sem, seval, f3, f4]
   obtain rfl := sI h
   refine X_ret ?_
   simp -implicitDefEqProofs only [go_sem, seval, f3, f4]
   exact Rt.mv0 (BaseR.refl hob) (by simp) (vS)
  ·rw [if_pos f4] at h
   obtain ⟨x3, f5, h⟩ := bindE h
   obtain ⟨f6, f7, f8⟩ := ixL_some f5
   try simp only [Int.toNat_natCast, Int.reduceToNat] at f8
   cases f9 : decide (x3.From = 0) && decide (x3.To = 2)
   ·rw [if_neg (nF f9)] at h
    simp -implicitDefEqProofs only [go_sem, seval, f3, f4, f9, f7, f8]
    obtain rfl := sI h
    refine X_ret ?_
    simp -implicitDefEqProofs only [go_sem, seval, f3, f4, f9, f7, f8]
    exact Rt.mv0 (BaseR.refl hob) (by simp) (vS)
   ·rw [if_pos f9] at h
    cases f10 : ((List.length x2.1.Blocks : Int) == 4)
    ·rw [if_neg (nF f10)] at h
     simp -implicitDefEqProofs only [go_sem, seval, f3, f4, f9, f10, f7, f8]
     obtain rfl := sI h
     refine X_ret ?_
     simp -implicitDefEqProofs only [go_sem, seval, f3, f4, f9, f10, f7, f8]
     exact Rt.mv0 (BaseR.refl hob) (by simp) (vS)
    ·rw [if_pos f10] at h
     obtain ⟨x4, f11, h⟩ := bindE h
     obtain ⟨f12, f13, f14⟩ := ixL_some f11
     try simp only [Int.toNat_natCast, Int.reduceToNat] at f14
     obtain ⟨x5, f15, h⟩ := bindE h
     obtain ⟨f16, f17, f18⟩ := ixL_some f15
     try simp only [Int.toNat_natCast, Int.reduceToNat] at f18
     cases f19 : (x5.M == 3)
     ·rw [if_neg (nF f19)] at h
      simp -implicitDefEqProofs only [go_sem, seval, f3, f4, f9, f10, f19, f7, f8, f13, f14, f17, f18]
      obtain rfl := sI h
      refine X_ret ?_
      simp -implicitDefEqProofs only [go_sem, seval, f3, f4, f9, f10, f19, f7, f8, f13, f14, f17, f18]
      exact Rt.mv0 (BaseR.refl hob) (by simp) (vS)
     ·rw [if_pos f19] at h
      obtain ⟨x6, f20, h⟩ := bindE h
      obtain ⟨f21, f22, f23⟩ := ixL_some f20
      try simp only [Int.toNat_natCast, Int.reduceToNat] at f23
      obtain ⟨x7, f24, h⟩ := bindE h
      obtain ⟨f25, f26, f27⟩ := ixL_some f24
      try simp only [Int.toNat_natCast, Int.reduceToNat] at f27
      cases f28 : (x7.M == 2)
      ·exact absurd f28 (by have h1 := f20; simp [ixL] at h1; subst h1; have h2 := f24; simp [ixL] at h2; subst h2; decide)
      ·rw [if_pos f28] at h
       obtain ⟨x8, f29, h⟩ := bindE h
       simp -implicitDefEqProofs only [go_sem, seval, f3, f4, f9, f10, f19, f28, f7, f8, f13, f14, f17, f18, f22, f23, f26, f27]
       refine callV_eq (edge_Critical_ok γ _  f29) rfl rfl ?_
       simp -implicitDefEqProofs only [go_sem, seval, f3, f4, f9, f10, f19, f28, f7, f8, f13, f14, f17, f18, f22, f23, f26, f27]
       obtain rfl := sI h
       refine X_ret ?_
       simp -implicitDefEqProofs only [go_sem, seval, f3, f4, f9, f10, f19, f28, f7, f8, f13, f14, f17, f18, f22, f23, f26, f27]
       exact Rt.mv0 (BaseR.refl hob) (by simp) (vS)
end Go.Pf
end
section
set_option maxRecDepth 100000
namespace Go.Pf
open Go Go.Ab Go.Pp Go.Proofs Go.Proofs.S04
attribute [local go_sem] Lxτ Lxγ gam0 Int.toNat_natCast tau3 tau22 tau24 tau28 tau29 tau31 tau32 tau35 tau42 tau44 eI eB eS e_Ins e_Block e_Func e_Prog e_code_writer e_code_reader e_Edge
set_option maxHeartbeats 1000000 in
theorem portolanlaw13_out_ok (γ : GT) (ob : OT) {a0 : Prog} {v0_0 : V} (hv0_0 : rdK (getO ob) 5 v0_0 = some (List.map e_Func a0.Funcs)) {r : Bool} (h : portolanlaw13_out a0 = some r) :
  Valid (Lx γ) 30 [V.agg [v0_0]] ob (vbool r) ob := by
 refine valid_X (lx_ok γ) (fn := Tryd.f30) (rs := [.tmp 2]) Tryd.func30 (by kernel_rfl) rfl rfl Tryd.ntmps30 rfl (by simp) fun hb hob => ?_
 have hq := rd4 hv0_0
 rw [portolanlaw13_out] at h
 refine X_sr (lx_ok γ) ?_
 simp -implicitDefEqProofs only [go_sem, seval, hq]
 refine X_sr (lx_ok γ) ?_
 obtain ⟨x1, f1, h⟩ := bindE h
 simp -implicitDefEqProofs only [go_sem, seval, hq]
 refine callV_eq (portolanref03_Great_ok γ _ (by first | exact rdK_app hv0_0 | exact hv0_0) f1) rfl rfl ?_
 cases f2 : x1
 ·rw [if_neg (nF f2)] at h
  obtain ⟨x2, f3, h⟩ := bindE h
  simp -implicitDefEqProofs only [go_sem, seval, f2, hq]
  refine callV_eq (portolanref04_Check_ok γ _ (by first | exact rdK_app hv0_0 | exact hv0_0) f3) rfl rfl ?_
  simp -implicitDefEqProofs only [go_sem, seval, f2, hq]
  obtain rfl := sI h
  refine X_ret ?_
  simp -implicitDefEqProofs only [go_sem, seval, f2, hq]
  exact Rt.mv0 (BaseR.refl hob) (by simp) (vS)
 ·rw [if_pos f2] at h
  simp -implicitDefEqProofs only [go_sem, seval, f2, hq]
  obtain rfl := sI h
  refine X_ret ?_
  simp -implicitDefEqProofs only [go_sem, seval, f2, hq]
  exact Rt.mv0 (BaseR.refl hob) (by simp) (vS)
end Go.Pf
end
section
set_option maxRecDepth 100000
namespace Go.Pf
open Go Go.Ab Go.Pp Go.Proofs Go.Proofs.S04
attribute [local go_sem] Lxτ Lxγ gam0 Int.toNat_natCast tau3 tau22 tau24 tau28 tau29 tau31 tau32 tau35 tau42 tau44 eI eB eS e_Ins e_Block e_Func e_Prog e_code_writer e_code_reader e_Edge
set_option maxHeartbeats 1000000 in
theorem edge_Whole_ok (γ : GT) (ob : OT) {a0 : Prog} {v0_0 : V} (hv0_0 : rdK (getO ob) 5 v0_0 = some (List.map e_Func a0.Funcs)) {r : Prog × Int} (h : edge_Whole a0 = some r) :
  Valid (Lx γ) 31 [V.agg [v0_0]] ob (V.tup [V.agg [V.tr (.sl 5 false (List.map e_Func r.1.Funcs))], vint .i64 r.2]) ob := by
 refine valid_X (lx_ok γ) (fn := Tryd.f31) (rs := [.cell 2 24, .tmp 3]) Tryd.func31 (by kernel_rfl) rfl rfl Tryd.ntmps31 rfl (by simp) fun hb hob => ?_
 have hq := rd4 hv0_0
 rw [edge_Whole] at h
 refine X_sr (lx_ok γ) ?_
 simp -implicitDefEqProofs only [go_sem, seval, hq]
 refine X_sr (lx_ok γ) ?_
 simp -implicitDefEqProofs only [go_sem, seval, hq]
 refine X_seq ?_
 refine X_sr (lx_ok γ) ?_
 simp -implicitDefEqProofs only [go_sem, seval, hq]
 refine X_jq (J := fun as1 ob1 => ∃ (x1 : List Func), edge_Whole.k1 x1 = some r ∧ [(2, V.ref ob.length 0), (4, V.ref (ob.length + 1) 0)] = as1 ∧ ob ++ [some (O.box [V.tr (.sl 0 true [])]), some (O.box [V.row (ob.length + 2) 0 0 (List.length x1)]), some (O.row 5 0 (List.map e_Func x1))] = ob1) ?_ ?_
 ·rintro as1 ob1 ⟨x1, h, rfl, rfl⟩
  rw [edge_Whole.k1] at h
  simp -implicitDefEqProofs only [go_sem, seval, hq]
  refine X_sr (lx_ok γ) ?_
  simp -implicitDefEqProofs only [go_sem, seval, hq]
  obtain rfl := sI h
  refine X_ret ?_
  simp -implicitDefEqProofs only [go_sem, seval, hq]
  refine Rt.trans (Rt.freeze (by simp only [go_sem, ↓reduceIte, Nat.reduceAdd, Nat.reduceEqDiff, frz, frzL]; rfl)) ?_
  simp -implicitDefEqProofs only [go_sem, seval, hq]
  exact Rt.mv0 (BaseR.refl hob) (by simp) (VM.tup ⟨VM.agg ⟨vS, trivial⟩, vS, trivial⟩)
 ·refine X_block ?_
  obtain ⟨lr1, hl1, hk1, hr1⟩ := aft2 h
  refine X_forN hl1 (fun (i1 : Nat) (s : (List Func)) as1 ob1 => [(2, V.ref ob.length 0), (4, V.ref (ob.length + 1) 0), (10, v0_0), (11, vint .i64 (List.length a0.Funcs : Int)), (12, vint .i64 (i1 : Int))] = as1 ∧ ob ++ [some (O.box [V.tr (.sl 0 true [])]), some (O.box [V.row (ob.length + 2) 0 0 (List.length s)]), some (O.row 5 0 (List.map e_Func s))] = ob1) ⟨_, _, ?_, rfl, rfl⟩ ?_ ?_
  ·exact To.trans (To.gh (as' := [(2, _), (4, _), (10, _), (11, _), (12, _)]) (l' := [some (O.box [_]), some (O.box [_]), some (O.box [V.row (ob.length + 3) 0 0 0])]) 5 ⟨VG.refl _ _ _, VG.refl _ _ _, VG.refl _ _ _, VG.refl _ _ _, VG.refl _ _ _, trivial⟩ ⟨Or.inl rfl, Or.inl rfl, Or.inr ⟨_, _, rfl, rfl, .box _ _ ⟨VG.nilL, trivial⟩⟩, trivial⟩) (To.mv [(1, 0), (2, 0), (3, 0)] (BaseR.refl hob) (by simp) (by decide) (by simp only [go_sem]; exact ⟨VM.refA (j := 1) (t := 0) rfl, VM.refA (j := 2) (t := 1) rfl, VM.self (by simpa using Bd.of_rdK hv0_0), vS, VM.eqv (by simp) (by simp)⟩) ⟨⟨_, rfl, OM.box _ _ ⟨vS, trivial⟩⟩, ⟨_, rfl, OM.box _ _ ⟨VM.rowL (j := 3) (t := 2) rfl (by simp), trivial⟩⟩, ⟨_, rfl, OM.row' rfl⟩, trivial⟩)
  ·rintro i1 x1 o1 hi1 hw1 h ho1 as1 ob1 ⟨rfl, rfl⟩
   rw [edge_Whole.b1] at h
   refine X_sr (lx_ok γ) ?_
   simp -implicitDefEqProofs only [go_sem, seval, hi1, hq]
   refine X_seq ?_
   refine X_cond (lx_ok γ) ?_
   simp -implicitDefEqProofs only [go_sem, seval, hi1, hq]
   refine X_skip ?_
   try simp -implicitDefEqProofs only [go_sem]
   refine X_seq ?_
   refine X_block ?_
   refine X_sr (lx_ok γ) ?_
   obtain ⟨x3, f1, h⟩ := bindE h
   obtain ⟨f2, f3⟩ := ixL_nat f1
   have f4 : (0 : Int) ≤ (i1 : Int) := Int.natCast_nonneg _
   simp -implicitDefEqProofs only [go_sem, seval, hi1, hq, f2, f3, f4]
   refine X_sr (lx_ok γ) ?_
   obtain ⟨x4, f5, h⟩ := bindE h
   simp -implicitDefEqProofs only [go_sem, seval, hi1, hq]
   refine callV_eq (edge_Split_ok γ _  f5) rfl rfl ?_
   simp -implicitDefEqProofs only [go_sem, seval, hi1, hq]
   refine X_seq ?_
   refine X_sr (lx_ok γ) ?_
   simp -implicitDefEqProofs only [go_sem, seval, hi1, hq]
   cases f6 : (x4.2 != 0)
   ·rw [if_neg (nF f6)] at h
    refine X_cond (lx_ok γ) ?_
    simp -implicitDefEqProofs only [go_sem, seval, hi1, f6, hq]
    refine X_skip ?_
    try simp -implicitDefEqProofs only [go_sem]
    refine X_reg (lx_ok γ) ?_
    obtain ⟨x5, f7, h⟩ := bindE h
    have f8 : List.length x5 * 88 ≤ 140737488355328 := by have := (appL_some f7).1; rw [(appL_some f7).2]; simpa using this
    have f9 : List.map e_Func x1 ++ [[.sl 1 false (List.map (eI .i64) x4.1.Kinds), .sl 1 false (List.map (eI .i64) x4.1.Base), .lit (.int .i64 x4.1.Params), .lit (.int .i64 x4.1.Result), .sl 1 false (List.map e_Block x4.1.Blocks)]] = List.map e_Func x5 := by rw [(appL_some f7).2]; simp [eB, eI, eS, e_Func]
    have f10 : List.length x1 + 1 = List.length x5 := by rw [(appL_some f7).2]; simp
    simp -implicitDefEqProofs only [go_sem, seval, hi1, f6, hq, f8, f9, f10]
    refine X_reg (lx_ok γ) ?_
    obtain rfl := sI h
    simp -implicitDefEqProofs only [go_sem, seval, hi1, f6, hq]
    refine kR_in rfl ?_ ⟨rfl, rfl⟩
    exact To.mv [(0, 0), (1, 0), (2, 1)] (BaseR.refl hob) (by simp) (by decide) (by simp only [go_sem]; exact ⟨VM.refA (j := 0) (t := 0) rfl, VM.refA (j := 1) (t := 1) rfl, VM.self (by simpa using Bd.of_rdK hv0_0), vS, VM.eqv (by rw [hw1]) (by simp)⟩) ⟨⟨_, rfl, OM.box _ _ ⟨vS, trivial⟩⟩, ⟨_, rfl, OM.box _ _ ⟨VM.rowL (j := 2) (t := 2) rfl (by first | rfl | simp | simp_all | omega), trivial⟩⟩, ⟨_, rfl, OM.row' (by first | rfl | simp_all)⟩, trivial⟩
   ·rw [if_pos f6] at h
    refine X_cond (lx_ok γ) ?_
    simp -implicitDefEqProofs only [go_sem, seval, hi1, f6, hq]
    refine X_sr (lx_ok γ) ?_
    simp -implicitDefEqProofs only [go_sem, seval, hi1, f6, hq]
    obtain rfl := sI h
    have h := hr1 _ (ho1 (fun _ hs => nomatch hs))
    obtain rfl := sI h
    refine X_ret ?_
    simp -implicitDefEqProofs only [go_sem, seval, hi1, f6, hq]
    exact Rt.mv0 (BaseR.refl hob) (by simp) (VM.tup ⟨VM.agg ⟨VM.nil _ _ _, trivial⟩, vS, trivial⟩)
  ·rintro i1 x1 hi1 hn1 as1 ob1 ⟨rfl, rfl⟩
   refine X_sr (lx_ok γ) ?_
   simp -implicitDefEqProofs only [go_sem, seval, hi1, hq]
   refine X_seq ?_
   refine X_cond (lx_ok γ) ?_
   simp -implicitDefEqProofs only [go_sem, seval, hi1, hq]
   have h := hk1 _ (.inl hn1)
   refine X_exit ?_
   try simp -implicitDefEqProofs only [go_sem, ↓reduceIte, Nat.reduceEqDiff, reduceCtorEq]
   refine kJ_in ?_ ⟨x1, h, rfl, rfl⟩
   exact To.mv [(0, 0), (1, 0), (2, 0)] (BaseR.refl hob) (by simp) (by decide) (by simp only [go_sem]; exact ⟨VM.refA (j := 0) (t := 0) rfl, VM.refA (j := 1) (t := 1) rfl⟩) ⟨⟨_, rfl, OM.box _ _ ⟨vS, trivial⟩⟩, ⟨_, rfl, OM.box _ _ ⟨VM.rowL (j := 2) (t := 2) rfl (by first | rfl | simp | simp_all | omega), trivial⟩⟩, ⟨_, rfl, OM.row' (by first | rfl | simp_all)⟩, trivial⟩
end Go.Pf
end
section
set_option maxRecDepth 100000
namespace Go.Pf
open Go Go.Ab Go.Pp Go.Proofs Go.Proofs.S04
attribute [local go_sem] Lxτ Lxγ gam0 Int.toNat_natCast tau3 tau28 tau29 tau31 tau35 tau42 tau44 eI eB eS e_Ins e_Block e_Func e_Prog e_code_writer e_code_reader e_Edge
set_option maxHeartbeats 1000000 in
theorem portolanlaw13_through_ok (γ : GT) (ob : OT) {a0 : Func} {v0_0 : V} {v0_1 : V} {v0_4 : V} {a1 : Int} {a2 : Int} (hv0_0 : rdK (getO ob) 1 v0_0 = some (List.map (eI .i64) a0.Kinds)) (hv0_1 : rdK (getO ob) 1 v0_1 = some (List.map (eI .i64) a0.Base)) (hv0_4 : rdK (getO ob) 1 v0_4 = some (List.map e_Block a0.Blocks)) {r : Int} (h : portolanlaw13_through a0 a1 a2 = some r) :
  Valid (Lx γ) 33 [V.agg [v0_0, v0_1, vint .i64 a0.Params, vint .i64 a0.Result, v0_4], vint .i64 a1, vint .i64 a2] ob (vint .i64 r) ob := by
 refine valid_X (lx_ok γ) (fn := Tryd.f33) (rs := [.tmp 6]) Tryd.func33 (by kernel_rfl) rfl rfl Tryd.ntmps33 rfl (by simp) fun hb hob => ?_
 have hq := And.intro (rd4 hv0_0) (And.intro (rd4 hv0_1) (rd4 hv0_4))
 rw [portolanlaw13_through] at h
 refine X_sr (lx_ok γ) ?_
 simp -implicitDefEqProofs only [go_sem, seval, hq]
 refine X_seq ?_
 refine X_seq ?_
 refine X_jq (J := fun as1 ob1 => ∃ (x2 : Bool), portolanlaw13_through.j1 a0 a1 x2 = some r ∧ [(1, vint .i64 a1), (3, V.ref ob.length 0), (16, vbool x2)] = as1 ∧ ob ++ [some (O.box [v0_0, v0_1, vint .i64 a0.Params, vint .i64 a0.Result, v0_4])] = ob1) ?_ ?_
 ·rintro as1 ob1 ⟨x2, h, rfl, rfl⟩
  rw [portolanlaw13_through.j1] at h
  simp -implicitDefEqProofs only [go_sem, seval, hq]
  cases f1 : x2
  ·rw [if_neg (nF f1)] at h
   refine X_cond (lx_ok γ) ?_
   simp -implicitDefEqProofs only [go_sem, seval, f1, hq]
   refine X_skip ?_
   try simp -implicitDefEqProofs only [go_sem]
   refine X_sr (lx_ok γ) ?_
   simp -implicitDefEqProofs only [go_sem, seval, f1, hq]
   obtain rfl := sI h
   refine X_ret ?_
   simp -implicitDefEqProofs only [go_sem, seval, f1, hq]
   exact Rt.mv0 (BaseR.refl hob) (by simp) (vS)
  ·rw [if_pos f1] at h
   refine X_cond (lx_ok γ) ?_
   simp -implicitDefEqProofs only [go_sem, seval, f1, hq]
   refine X_sr (lx_ok γ) ?_
   obtain ⟨x3, f2, h⟩ := bindE h
   obtain ⟨f3, f4, f5⟩ := ixL_some f2
   try simp only [Int.toNat_natCast, Int.reduceToNat] at f5
   obtain ⟨x4, f6, h⟩ := bindE h
   obtain ⟨f7, f8, f9⟩ := ixL_some f6
   try simp only [Int.toNat_natCast, Int.reduceToNat] at f9
   simp -implicitDefEqProofs only [go_sem, seval, f1, hq, f3, f4, f5, f8, f9]
   obtain rfl := sI h
   refine X_ret ?_
   simp -implicitDefEqProofs only [go_sem, seval, f1, hq, f3, f4, f5, f8, f9]
   exact Rt.mv0 (BaseR.refl hob) (by simp) (vS)
 ·refine X_reg (lx_ok γ) ?_
  cases f10 : decide (a2 ≤ a1)
  ·rw [if_neg (nF f10)] at h
   simp -implicitDefEqProofs only [go_sem, seval, f10, hq]
   refine kJ_in ?_ ⟨false, h, rfl, rfl⟩
   exact To.mv [(0, 0)] (BaseR.refl hob) (by simp) (by decide) (by simp only [go_sem]; exact ⟨vS, VM.refA (j := 0) (t := 0) rfl, vS⟩) ⟨⟨_, rfl, OM.box _ _ ⟨VM.self (by simpa using Bd.of_rdK hv0_0), VM.self (by simpa using Bd.of_rdK hv0_1), vS, vS, VM.self (by simpa using Bd.of_rdK hv0_4), trivial⟩⟩, trivial⟩
  ·rw [if_pos f10] at h
   simp -implicitDefEqProofs only [go_sem, seval, f10, hq]
   refine kJ_in ?_ ⟨(decide (a1 < (List.length a0.Blocks : Int))), h, rfl, rfl⟩
   exact To.mv [(0, 0)] (BaseR.refl hob) (by simp) (by decide) (by simp only [go_sem]; exact ⟨vS, VM.refA (j := 0) (t := 0) rfl, vS⟩) ⟨⟨_, rfl, OM.box _ _ ⟨VM.self (by simpa using Bd.of_rdK hv0_0), VM.self (by simpa using Bd.of_rdK hv0_1), vS, vS, VM.self (by simpa using Bd.of_rdK hv0_4), trivial⟩⟩, trivial⟩
end Go.Pf
end
section
set_option maxRecDepth 100000
namespace Go.Pf
open Go Go.Ab Go.Pp Go.Proofs Go.Proofs.S04
attribute [local go_sem] Lxτ Lxγ gam0 Int.toNat_natCast List.append_eq List.cons_append List.nil_append tau3 tau4 tau22 tau24 tau28 tau29 tau31 tau32 tau35 tau42 tau44 tau52 tau83 eI eB eS e_Ins e_Block e_Func e_Prog e_code_writer e_code_reader e_Edge
set_option maxHeartbeats 1000000 in
theorem portolanlaw13_EdgeNone_ok (γ : GT) (ob : OT) {a0 : Prog} {v0_0 : V} (hv0_0 : rdK (getO ob) 5 v0_0 = some (List.map e_Func a0.Funcs)) {r : Bool} (h : portolanlaw13_EdgeNone a0 = some r) :
  Valid (Lx γ) 8 [V.agg [v0_0]] ob (vbool r) ob := by
 refine valid_X (lx_ok γ) (fn := Tryd.f8) (rs := [.tmp 2]) Tryd.func8 (by kernel_rfl) rfl rfl Tryd.ntmps8 rfl (by simp) fun hb hob => ?_
 have hq := rd4 hv0_0
 rw [portolanlaw13_EdgeNone] at h
 refine X_sr (lx_ok γ) ?_
 simp -implicitDefEqProofs only [go_sem, seval, hq]
 refine X_seq ?_
 refine X_sr (lx_ok γ) ?_
 obtain ⟨x1, f1, h⟩ := bindE h
 simp -implicitDefEqProofs only [go_sem, seval, hq]
 refine callV_eq (portolanlaw13_alive_ok γ _  f1) rfl rfl ?_
 simp -implicitDefEqProofs only [go_sem, seval, hq]
 cases f2 : x1
 ·rw [if_neg (nF f2)] at h
  refine X_cond (lx_ok γ) ?_
  simp -implicitDefEqProofs only [go_sem, seval, f2, hq]
  refine X_sr (lx_ok γ) ?_
  simp -implicitDefEqProofs only [go_sem, seval, f2, hq]
  obtain rfl := sI h
  refine X_ret ?_
  simp -implicitDefEqProofs only [go_sem, seval, f2, hq]
  exact Rt.mv0 (BaseR.refl hob) (by simp) (vS)
 ·rw [if_pos f2] at h
  refine X_cond (lx_ok γ) ?_
  simp -implicitDefEqProofs only [go_sem, seval, f2, hq]
  refine X_skip ?_
  try simp -implicitDefEqProofs only [go_sem]
  refine X_seq ?_
  refine X_sr (lx_ok γ) ?_
  obtain ⟨x2, f3, h⟩ := bindE h
  simp -implicitDefEqProofs only [go_sem, seval, f2, hq]
  refine callV_eq (portolanlaw13_out_ok γ _ (by first | exact rdK_app hv0_0 | exact hv0_0) f3) rfl rfl ?_
  simp -implicitDefEqProofs only [go_sem, seval, f2, hq]
  cases f4 : x2
  ·rw [if_neg (nF f4)] at h
   refine X_cond (lx_ok γ) ?_
   simp -implicitDefEqProofs only [go_sem, seval, f2, f4, hq]
   refine X_skip ?_
   try simp -implicitDefEqProofs only [go_sem]
   refine X_sr (lx_ok γ) ?_
   obtain ⟨x3, f5, h⟩ := bindE h
   simp -implicitDefEqProofs only [go_sem, seval, f2, f4, hq]
   refine callV_eq (edge_Whole_ok γ _ (by first | exact rdK_app hv0_0 | exact hv0_0) f5) rfl rfl ?_
   simp -implicitDefEqProofs only [go_sem, seval, f2, f4, hq]
   refine X_seq ?_
   refine X_sr (lx_ok γ) ?_
   simp -implicitDefEqProofs only [go_sem, seval, f2, f4, hq]
   cases f6 : (x3.2 != 0)
   ·rw [if_neg (nF f6)] at h
    refine X_cond (lx_ok γ) ?_
    simp -implicitDefEqProofs only [go_sem, seval, f2, f4, f6, hq]
    refine X_skip ?_
    try simp -implicitDefEqProofs only [go_sem]
    refine X_seq ?_
    refine X_sr (lx_ok γ) ?_
    obtain ⟨x4, f7, h⟩ := bindE h
    simp -implicitDefEqProofs only [go_sem, seval, f2, f4, f6, hq]
    refine callV_eq (shape_Check_ok γ _  f7) rfl rfl ?_
    simp -implicitDefEqProofs only [go_sem, seval, f2, f4, f6, hq]
    cases f8 : (x4 != 0)
    ·rw [if_neg (nF f8)] at h
     refine X_cond (lx_ok γ) ?_
     simp -implicitDefEqProofs only [go_sem, seval, f2, f4, f6, f8, hq]
     refine X_skip ?_
     try simp -implicitDefEqProofs only [go_sem]
     refine X_seq ?_
     refine X_sr (lx_ok γ) ?_
     simp -implicitDefEqProofs only [go_sem, seval, f2, f4, f6, f8, hq]
     refine X_jq (J := fun as1 ob1 => portolanlaw13_EdgeNone.k1 = some r ∧ [] = as1 ∧ ob = ob1) ?_ ?_
     ·rintro as1 ob1 ⟨h, rfl, rfl⟩
      rw [portolanlaw13_EdgeNone.k1] at h
      simp -implicitDefEqProofs only [go_sem, seval, f2, f4, f6, f8, hq]
      refine X_sr (lx_ok γ) ?_
      simp -implicitDefEqProofs only [go_sem, seval, f2, f4, f6, f8, hq]
      obtain rfl := sI h
      refine X_ret ?_
      simp -implicitDefEqProofs only [go_sem, seval, f2, f4, f6, f8, hq]
      exact Rt.mv1 (BaseR.refl hob) (by simp) (vS)
     ·refine X_block ?_
      obtain ⟨lr1, hl1, hk1, hr1⟩ := aft2 h
      refine X_forN hl1 (fun (i1 : Nat) (s : Unit) as1 ob1 => [(1, V.ref ob.length 0), (3, V.ref (ob.length + 1) 0), (5, vint .i64 (i1 : Int))] = as1 ∧ ob ++ [some (O.box [v0_0]), some (O.box [V.tr (.sl 5 false (List.map e_Func x3.1.Funcs))])] = ob1) ⟨_, _, ?_, rfl, rfl⟩ ?_ ?_
      ·exact To.mv [(0, 0), (1, 0)] (BaseR.refl hob) (by simp) (by decide) (by simp only [go_sem]; exact ⟨VM.refA (j := 0) (t := 0) rfl, VM.refA (j := 1) (t := 1) rfl, VM.eqv (by simp) (by simp)⟩) ⟨⟨_, rfl, OM.box _ _ ⟨VM.self (by simpa using Bd.of_rdK hv0_0), trivial⟩⟩, ⟨_, rfl, OM.box _ _ ⟨vS, trivial⟩⟩, trivial⟩
      ·rintro i1 _ o1 hi1 hw1 h ho1 as1 ob1 ⟨rfl, rfl⟩
       rw [portolanlaw13_EdgeNone.b1] at h
       refine X_seq ?_
       refine X_sr (lx_ok γ) ?_
       simp -implicitDefEqProofs only [go_sem, seval, f2, f4, f6, f8, hi1, hq]
       refine X_cond (lx_ok γ) ?_
       simp -implicitDefEqProofs only [go_sem, seval, f2, f4, f6, f8, hi1, hq]
       refine X_skip ?_
       try simp -implicitDefEqProofs only [go_sem]
       refine X_seq ?_
       refine X_block ?_
       refine X_seq ?_
       refine X_drawn2 (lx_ok γ) 10 [[], [0], [], [0, 1, 2], [0, 1, 2, 3], [], [5], [], [5, 6, 7], [5, 6, 7, 8], [], [10], [0, 1, 2, 3, 4, 10, 11], [0, 1, 2, 3, 4, 5, 6, 7, 8, 9, 10, 11, 12]] (fun i => match i with | 10 => true | 11 => true | 12 => true | 13 => true | _ => false) [[], [0], [], [0, 1, 2], [0, 1, 2, 3], [], [5], [], [5, 6, 7], [5, 6, 7, 8], [], [10], [0, 1, 2, 3, 4, 10, 11], [0, 1, 2, 3, 4, 5, 6, 7, 8, 9, 10, 11, 12]] (fun i => match i with | 10 => true | 11 => true | 12 => true | 13 => true | _ => false) (by decide) (by kernel_rfl) (by kernel_rfl) ?_ ?_
       ·simp -implicitDefEqProofs only [go_sem, List.map_cons, List.map_nil, Nat.reduceAdd, Nat.reduceEqDiff, reduceIte, Option.map_none, Option.map_some]
        obtain ⟨x6, f9, h⟩ := bindE h
        obtain ⟨f10, f11⟩ := ixL_nat f9
        have f12 : (0 : Int) ≤ (i1 : Int) := Int.natCast_nonneg _
        obtain ⟨x7, f13, h⟩ := bindE h
        obtain ⟨f14, f15⟩ := ixL_nat f13
        have f16 : (0 : Int) ≤ (i1 : Int) := Int.natCast_nonneg _
        try simp -implicitDefEqProofs only [go_sem, seval, f2, f4, f6, f8, hi1, hq, f10, f11, f12, f14, f15, f16, cmpr, List.getD_cons_zero, List.getD_cons_succ, List.contains_cons, List.contains_nil, Nat.reduceBEq, Bool.false_or, Bool.or_false, Bool.true_or, Bool.or_true, beq_self_eq_true]
        refine X_seq ?_
        refine X_seq ?_
        refine X_jq (J := fun as1 ob1 => ∃ (x9 : Bool), portolanlaw13_EdgeNone.j1 x6 x7 x9 = some o1 ∧ [(1, V.ref ob.length 0), (3, V.ref (ob.length + 1) 0), (5, vint .i64 (i1 : Int)), (6, V.ref (ob.length + 2) 0), (7, V.ref (ob.length + 3) 0), (62, vbool x9)] = as1 ∧ ob ++ [some (O.box [v0_0]), some (O.box [V.tr (.sl 5 false (List.map e_Func x3.1.Funcs))]), some (O.box [V.tr (.sl 1 false (List.map (eI .i64) x6.Kinds)), V.tr (.sl 1 false (List.map (eI .i64) x6.Base)), vint .i64 x6.Params, vint .i64 x6.Result, V.tr (.sl 1 false (List.map e_Block x6.Blocks))]), some (O.box [V.tr (.sl 1 false (List.map (eI .i64) x7.Kinds)), V.tr (.sl 1 false (List.map (eI .i64) x7.Base)), vint .i64 x7.Params, vint .i64 x7.Result, V.tr (.sl 1 false (List.map e_Block x7.Blocks))])] = ob1) ?_ ?_
        ·rintro as1 ob1 ⟨x9, h, rfl, rfl⟩
         rw [portolanlaw13_EdgeNone.j1] at h
         simp -implicitDefEqProofs only [go_sem, seval, f2, f4, f6, f8, hi1, hq]
         cases f17 : x9
         ·rw [if_neg (nF f17)] at h
          refine X_cond (lx_ok γ) ?_
          simp -implicitDefEqProofs only [go_sem, seval, f2, f4, f6, f8, hi1, f17, hq]
          refine X_skip ?_
          try simp -implicitDefEqProofs only [go_sem]
          refine X_sr (lx_ok γ) ?_
          simp -implicitDefEqProofs only [go_sem, seval, f2, f4, f6, f8, hi1, f17, hq]
          refine X_jq (J := fun as1 ob1 => portolanlaw13_EdgeNone.k2 = some o1 ∧ [(1, V.ref ob.length 0), (3, V.ref (ob.length + 1) 0), (5, vint .i64 (i1 : Int))] = as1 ∧ ob ++ [some (O.box [v0_0]), some (O.box [V.tr (.sl 5 false (List.map e_Func x3.1.Funcs))])] = ob1) ?_ ?_
          ·rintro as1 ob1 ⟨h, rfl, rfl⟩
           rw [portolanlaw13_EdgeNone.k2] at h
           simp -implicitDefEqProofs only [go_sem, seval, f2, f4, f6, f8, hi1, f17, hq]
           refine X_reg (lx_ok γ) ?_
           obtain rfl := sI h
           simp -implicitDefEqProofs only [go_sem, seval, f2, f4, f6, f8, hi1, f17, hq]
           refine kR_in rfl ?_ ⟨rfl, rfl⟩
           exact To.mv [(0, 0), (1, 0)] (BaseR.refl hob) (by simp) (by decide) (by simp only [go_sem]; exact ⟨VM.refA (j := 0) (t := 0) rfl, VM.refA (j := 1) (t := 1) rfl, VM.eqv (by rw [hw1]) (by simp)⟩) ⟨⟨_, rfl, OM.box _ _ ⟨VM.self (by simpa using Bd.of_rdK hv0_0), trivial⟩⟩, ⟨_, rfl, OM.box _ _ ⟨vS, trivial⟩⟩, trivial⟩
          ·refine X_block ?_
           obtain ⟨lr2, hl2, hk2, hr2⟩ := aft2 h
           refine X_forN hl2 (fun (i2 : Nat) (s : Unit) as1 ob1 => [(1, V.ref ob.length 0), (3, V.ref (ob.length + 1) 0), (5, vint .i64 (i1 : Int)), (6, V.ref (ob.length + 2) 0), (7, V.ref (ob.length + 3) 0), (8, vint .i64 (i2 : Int))] = as1 ∧ ob ++ [some (O.box [v0_0]), some (O.box [V.tr (.sl 5 false (List.map e_Func x3.1.Funcs))]), some (O.box [V.tr (.sl 1 false (List.map (eI .i64) x6.Kinds)), V.tr (.sl 1 false (List.map (eI .i64) x6.Base)), vint .i64 x6.Params, vint .i64 x6.Result, V.tr (.sl 1 false (List.map e_Block x6.Blocks))]), some (O.box [V.tr (.sl 1 false (List.map (eI .i64) x7.Kinds)), V.tr (.sl 1 false (List.map (eI .i64) x7.Base)), vint .i64 x7.Params, vint .i64 x7.Result, V.tr (.sl 1 false (List.map e_Block x7.Blocks))])] = ob1) ⟨_, _, ?_, rfl, rfl⟩ ?_ ?_
           ·exact To.mv [(0, 0), (1, 0), (2, 0), (3, 0)] (BaseR.refl hob) (by simp) (by decide) (by simp only [go_sem]; exact ⟨VM.refA (j := 0) (t := 0) rfl, VM.refA (j := 1) (t := 1) rfl, vS, VM.refA (j := 2) (t := 2) rfl, VM.refA (j := 3) (t := 3) rfl, VM.eqv (by simp) (by simp)⟩) ⟨⟨_, rfl, OM.box _ _ ⟨VM.self (by simpa using Bd.of_rdK hv0_0), trivial⟩⟩, ⟨_, rfl, OM.box _ _ ⟨vS, trivial⟩⟩, ⟨_, rfl, OM.box _ _ ⟨vS, vS, vS, vS, vS, trivial⟩⟩, ⟨_, rfl, OM.box _ _ ⟨vS, vS, vS, vS, vS, trivial⟩⟩, trivial⟩
           ·rintro i2 _ o2 hi2 hw2 h ho2 as1 ob1 ⟨rfl, rfl⟩
            rw [portolanlaw13_EdgeNone.b2] at h
            refine X_seq ?_
            refine X_sr (lx_ok γ) ?_
            simp -implicitDefEqProofs only [go_sem, seval, f2, f4, f6, f8, hi1, f17, hi2, hq]
            refine X_cond (lx_ok γ) ?_
            simp -implicitDefEqProofs only [go_sem, seval, f2, f4, f6, f8, hi1, f17, hi2, hq]
            refine X_skip ?_
            try simp -implicitDefEqProofs only [go_sem]
            refine X_seq ?_
            refine X_block ?_
            refine X_seq ?_
            refine X_drawn2 (lx_ok γ) 32 [[], [0], [], [0, 1, 2], [0, 1, 2, 3], [0, 1, 2, 3, 4], [], [6], [], [6, 7, 8], [6, 7, 8, 9], [6, 7, 8, 9, 10], [6, 7, 8, 9, 10, 11], [6, 7, 8, 9, 10, 11, 12], [0, 1, 2, 3, 4, 5, 6, 7, 8, 9, 10, 11, 12, 13], [0, 1, 2, 3, 4, 5, 6, 7, 8, 9, 10, 11, 12, 13, 14], [], [16], [], [16, 17, 18], [16, 17, 18, 19], [16, 17, 18, 19, 20], [], [22], [], [22, 23, 24], [22, 23, 24, 25], [22, 23, 24, 25, 26], [22, 23, 24, 25, 26, 27], [22, 23, 24, 25, 26, 27, 28], [16, 17, 18, 19, 20, 21, 22, 23, 24, 25, 26, 27, 28, 29], [16, 17, 18, 19, 20, 21, 22, 23, 24, 25, 26, 27, 28, 29, 30], [], [32], [0, 1, 2, 3, 4, 5, 6, 7, 8, 9, 10, 11, 12, 13, 14, 15, 32, 33], [0, 1, 2, 3, 4, 5, 6, 7, 8, 9, 10, 11, 12, 13, 14, 15, 16, 17, 18, 19, 20, 21, 22, 23, 24, 25, 26, 27, 28, 29, 30, 31, 32, 33, 34]] (fun i => match i with | 32 => true | 33 => true | 34 => true | 35 => true | _ => false) [[], [0], [], [0, 1, 2], [0, 1, 2, 3], [0, 1, 2, 3, 4], [], [6], [], [6, 7, 8], [6, 7, 8, 9], [6, 7, 8, 9, 10], [6, 7, 8, 9, 10, 11], [6, 7, 8, 9, 10, 11, 12], [0, 1, 2, 3, 4, 5, 6, 7, 8, 9, 10, 11, 12, 13], [0, 1, 2, 3, 4, 5, 6, 7, 8, 9, 10, 11, 12, 13, 14], [], [16], [], [16, 17, 18], [16, 17, 18, 19], [16, 17, 18, 19, 20], [], [22], [], [22, 23, 24], [22, 23, 24, 25], [22, 23, 24, 25, 26], [22, 23, 24, 25, 26, 27], [22, 23, 24, 25, 26, 27, 28], [16, 17, 18, 19, 20, 21, 22, 23, 24, 25, 26, 27, 28, 29], [16, 17, 18, 19, 20, 21, 22, 23, 24, 25, 26, 27, 28, 29, 30], [], [32], [0, 1, 2, 3, 4, 5, 6, 7, 8, 9, 10, 11, 12, 13, 14, 15, 32, 33], [0, 1, 2, 3, 4, 5, 6, 7, 8, 9, 10, 11, 12, 13, 14, 15, 16, 17, 18, 19, 20, 21, 22, 23, 24, 25, 26, 27, 28, 29, 30, 31, 32, 33, 34]] (fun i => match i with | 32 => true | 33 => true | 34 => true | 35 => true | _ => false) (by decide) (by kernel_rfl) (by kernel_rfl) ?_ ?_
            ·simp -implicitDefEqProofs only [go_sem, List.map_cons, List.map_nil, Nat.reduceAdd, Nat.reduceEqDiff, reduceIte, Option.map_none, Option.map_some]
             obtain ⟨x11, f18, h⟩ := bindE h
             obtain ⟨f19, f20⟩ := ixL_nat f18
             have f21 : (0 : Int) ≤ (i2 : Int) := Int.natCast_nonneg _
             obtain ⟨x12, f22, h⟩ := bindE h
             obtain ⟨f23, f24, f25⟩ := ixL_some f22
             try simp only [Int.toNat_natCast, Int.reduceToNat] at f25
             obtain ⟨x13, f26, h⟩ := bindE h
             obtain ⟨f27, f28⟩ := ixL_nat f26
             have f29 : (0 : Int) ≤ (i2 : Int) := Int.natCast_nonneg _
             obtain ⟨x14, f30, h⟩ := bindE h
             obtain ⟨f31, f32, f33⟩ := ixL_some f30
             try simp only [Int.toNat_natCast, Int.reduceToNat] at f33
             try simp -implicitDefEqProofs only [go_sem, seval, f2, f4, f6, f8, hi1, f17, hi2, hq, f19, f20, f21, f23, f24, f25, f27, f28, f29, f31, f32, f33, cmpr, List.getD_cons_zero, List.getD_cons_succ, List.contains_cons, List.contains_nil, Nat.reduceBEq, Bool.false_or, Bool.or_false, Bool.true_or, Bool.or_true, beq_self_eq_true]
             refine X_seq ?_
             refine X_drawn (lx_ok γ) [[], [], [1], [], [3], [3, 4], [0, 1, 2, 3, 4, 5], [], [7], [0, 1, 2, 3, 4, 5, 6, 7, 8], [0, 1, 2, 3, 4, 5, 6, 7, 8, 9], [0, 1, 2, 3, 4, 5, 6, 7, 8, 9, 10], [0, 1, 2, 3, 4, 5, 6, 7, 8, 9, 10, 11], [0, 1, 2, 3, 4, 5, 6, 7, 8, 9, 10, 11, 12], [0, 1, 2, 3, 4, 5, 6, 7, 8, 9, 10, 11, 12, 13], [0, 1, 2, 3, 4, 5, 6, 7, 8, 9, 10, 11, 12, 13, 14], [0, 1, 2, 3, 4, 5, 6, 7, 8, 9, 10, 11, 12, 13, 14, 15], [0, 1, 2, 3, 4, 5, 6, 7, 8, 9, 10, 11, 12, 13, 14, 15, 16], [0, 1, 2, 3, 4, 5, 6, 7, 8, 9, 10, 11, 12, 13, 14, 15, 16, 17], [0, 1, 2, 3, 4, 5, 6, 7, 8, 9, 10, 11, 12, 13, 14, 15, 16, 17, 18], [0, 1, 2, 3, 4, 5, 6, 7, 8, 9, 10, 11, 12, 13, 14, 15, 16, 17, 18, 19], [0, 1, 2, 3, 4, 5, 6, 7, 8, 9, 10, 11, 12, 13, 14, 15, 16, 17, 18, 19], [0, 1, 2, 3, 4, 5, 6, 7, 8, 9, 10, 11, 12, 13, 14, 15, 16, 17, 18, 19, 21], [0, 1, 2, 3, 4, 5, 6, 7, 8, 9, 10, 11, 12, 13, 14, 15, 16, 17, 18, 19], [0, 1, 2, 3, 4, 5, 6, 7, 8, 9, 10, 11, 12, 13, 14, 15, 16, 17, 18, 19, 23], [0, 1, 2, 3, 4, 5, 6, 7, 8, 9, 10, 11, 12, 13, 14, 15, 16, 17, 18, 19, 23, 24], [0, 1, 2, 3, 4, 5, 6, 7, 8, 9, 10, 11, 12, 13, 14, 15, 16, 17, 18, 19, 20, 21, 22, 23, 24, 25], [0, 1, 2, 3, 4, 5, 6, 7, 8, 9, 10, 11, 12, 13, 14, 15, 16, 17, 18, 19], [0, 1, 2, 3, 4, 5, 6, 7, 8, 9, 10, 11, 12, 13, 14, 15, 16, 17, 18, 19, 27], [0, 1, 2, 3, 4, 5, 6, 7, 8, 9, 10, 11, 12, 13, 14, 15, 16, 17, 18, 19, 20, 21, 22, 23, 24, 25, 26, 27, 28], [0, 1, 2, 3, 4, 5, 6, 7, 8, 9, 10, 11, 12, 13, 14, 15, 16, 17, 18, 19, 20, 21, 22, 23, 24, 25, 26, 27, 28, 29], [0, 1, 2, 3, 4, 5, 6, 7, 8, 9, 10, 11, 12, 13, 14, 15, 16, 17, 18, 19, 20, 21, 22, 23, 24, 25, 26, 27, 28, 29, 30]] (fun i => match i with | _ => false) (by kernel_rfl) ?_
             obtain ⟨x15, f34, h⟩ := bindE h
             try simp -implicitDefEqProofs only [go_sem, seval, f2, f4, f6, f8, hi1, f17, hi2, hq, cmpr, List.getD_cons_zero, List.getD_cons_succ, List.contains_cons, List.contains_nil, Nat.reduceBEq, Bool.false_or, Bool.or_false, Bool.true_or, Bool.or_true, beq_self_eq_true]
             refine callV_eq (portolanlaw13_through_ok γ _ (by simp -implicitDefEqProofs only [go_sem, seval, f2, f4, f6, f8, hi1, f17, hi2, hq]; try rfl) (by simp -implicitDefEqProofs only [go_sem, seval, f2, f4, f6, f8, hi1, f17, hi2, hq]; try rfl) (by simp -implicitDefEqProofs only [go_sem, seval, f2, f4, f6, f8, hi1, f17, hi2, hq]; try rfl) f34) rfl rfl ?_
             cases f35 : (x15 != x12.N)
             ·rw [if_neg (nF f35)] at h
              cases f36 : (x12.Op == 22)
              ·rw [if_neg (nF f36)] at h
               try simp -implicitDefEqProofs only [go_sem, seval, f2, f4, f6, f8, hi1, f17, hi2, f35, f36, hq, cmpr, List.getD_cons_zero, List.getD_cons_succ, List.contains_cons, List.contains_nil, Nat.reduceBEq, Bool.false_or, Bool.or_false, Bool.true_or, Bool.or_true, beq_self_eq_true]
               refine X_condF (lx_ok γ) rfl ?_
               refine X_skip ?_
               try simp -implicitDefEqProofs only [go_sem]
               refine X_reg (lx_ok γ) ?_
               obtain rfl := sI h
               simp -implicitDefEqProofs only [go_sem, seval, f2, f4, f6, f8, hi1, f17, hi2, f35, f36, hq]
               refine kR_in rfl ?_ ⟨rfl, rfl⟩
               exact To.mv [(0, 0), (1, 0), (2, 0), (3, 0)] (BaseR.refl hob) (by simp) (by decide) (by simp only [go_sem]; exact ⟨VM.refA (j := 0) (t := 0) rfl, VM.refA (j := 1) (t := 1) rfl, vS, VM.refA (j := 2) (t := 2) rfl, VM.refA (j := 3) (t := 3) rfl, VM.eqv (by rw [hw2]) (by simp)⟩) ⟨⟨_, rfl, OM.box _ _ ⟨VM.self (by simpa using Bd.of_rdK hv0_0), trivial⟩⟩, ⟨_, rfl, OM.box _ _ ⟨vS, trivial⟩⟩, ⟨_, rfl, OM.box _ _ ⟨vS, vS, vS, vS, vS, trivial⟩⟩, ⟨_, rfl, OM.box _ _ ⟨vS, vS, vS, vS, vS, trivial⟩⟩, trivial⟩
              ·rw [if_pos f36] at h
               obtain ⟨x16, f37, h⟩ := bindE h
               try simp -implicitDefEqProofs only [go_sem, seval, f2, f4, f6, f8, hi1, f17, hi2, f35, f36, hq, cmpr, List.getD_cons_zero, List.getD_cons_succ, List.contains_cons, List.contains_nil, Nat.reduceBEq, Bool.false_or, Bool.or_false, Bool.true_or, Bool.or_true, beq_self_eq_true]
               refine callV_eq (portolanlaw13_through_ok γ _ (by simp -implicitDefEqProofs only [go_sem, seval, f2, f4, f6, f8, hi1, f17, hi2, f35, f36, hq]; try rfl) (by simp -implicitDefEqProofs only [go_sem, seval, f2, f4, f6, f8, hi1, f17, hi2, f35, f36, hq]; try rfl) (by simp -implicitDefEqProofs only [go_sem, seval, f2, f4, f6, f8, hi1, f17, hi2, f35, f36, hq]; try rfl) f37) rfl rfl ?_
               try simp -implicitDefEqProofs only [go_sem, seval, f2, f4, f6, f8, hi1, f17, hi2, f35, f36, hq, cmpr, List.getD_cons_zero, List.getD_cons_succ, List.contains_cons, List.contains_nil, Nat.reduceBEq, Bool.false_or, Bool.or_false, Bool.true_or, Bool.or_true, beq_self_eq_true]
               cases f38 : (x16 != x12.M)
               ·rw [if_neg (nF f38)] at h
                refine X_cond (lx_ok γ) ?_
                simp -implicitDefEqProofs only [go_sem, seval, f2, f4, f6, f8, hi1, f17, hi2, f35, f36, f38, hq]
                refine X_skip ?_
                try simp -implicitDefEqProofs only [go_sem]
                refine X_reg (lx_ok γ) ?_
                obtain rfl := sI h
                simp -implicitDefEqProofs only [go_sem, seval, f2, f4, f6, f8, hi1, f17, hi2, f35, f36, f38, hq]
                refine kR_in rfl ?_ ⟨rfl, rfl⟩
                exact To.mv [(0, 0), (1, 0), (2, 0), (3, 0)] (BaseR.refl hob) (by simp) (by decide) (by simp only [go_sem]; exact ⟨VM.refA (j := 0) (t := 0) rfl, VM.refA (j := 1) (t := 1) rfl, vS, VM.refA (j := 2) (t := 2) rfl, VM.refA (j := 3) (t := 3) rfl, VM.eqv (by rw [hw2]) (by simp)⟩) ⟨⟨_, rfl, OM.box _ _ ⟨VM.self (by simpa using Bd.of_rdK hv0_0), trivial⟩⟩, ⟨_, rfl, OM.box _ _ ⟨vS, trivial⟩⟩, ⟨_, rfl, OM.box _ _ ⟨vS, vS, vS, vS, vS, trivial⟩⟩, ⟨_, rfl, OM.box _ _ ⟨vS, vS, vS, vS, vS, trivial⟩⟩, trivial⟩
               ·rw [if_pos f38] at h
                refine X_cond (lx_ok γ) ?_
                simp -implicitDefEqProofs only [go_sem, seval, f2, f4, f6, f8, hi1, f17, hi2, f35, f36, f38, hq]
                refine X_sr (lx_ok γ) ?_
                simp -implicitDefEqProofs only [go_sem, seval, f2, f4, f6, f8, hi1, f17, hi2, f35, f36, f38, hq]
                obtain rfl := sI h
                have h := hr2 _ (ho2 (fun _ hs => nomatch hs))
                obtain rfl := sI h
                have h := hr1 _ (ho1 (fun _ hs => nomatch hs))
                obtain rfl := sI h
                refine X_ret ?_
                simp -implicitDefEqProofs only [go_sem, seval, f2, f4, f6, f8, hi1, f17, hi2, f35, f36, f38, hq]
                exact Rt.mv0 (BaseR.refl hob) (by simp) (vS)
             ·rw [if_pos f35] at h
              cases f39 : (x12.Op != 23)
              ·rw [if_neg (nF f39)] at h
               cases f40 : (x12.Op == 22)
               ·rw [if_neg (nF f40)] at h
                try simp -implicitDefEqProofs only [go_sem, seval, f2, f4, f6, f8, hi1, f17, hi2, f35, f39, f40, hq, cmpr, List.getD_cons_zero, List.getD_cons_succ, List.contains_cons, List.contains_nil, Nat.reduceBEq, Bool.false_or, Bool.or_false, Bool.true_or, Bool.or_true, beq_self_eq_true]
                refine X_condF (lx_ok γ) rfl ?_
                refine X_skip ?_
                try simp -implicitDefEqProofs only [go_sem]
                refine X_reg (lx_ok γ) ?_
                obtain rfl := sI h
                simp -implicitDefEqProofs only [go_sem, seval, f2, f4, f6, f8, hi1, f17, hi2, f35, f39, f40, hq]
                refine kR_in rfl ?_ ⟨rfl, rfl⟩
                exact To.mv [(0, 0), (1, 0), (2, 0), (3, 0)] (BaseR.refl hob) (by simp) (by decide) (by simp only [go_sem]; exact ⟨VM.refA (j := 0) (t := 0) rfl, VM.refA (j := 1) (t := 1) rfl, vS, VM.refA (j := 2) (t := 2) rfl, VM.refA (j := 3) (t := 3) rfl, VM.eqv (by rw [hw2]) (by simp)⟩) ⟨⟨_, rfl, OM.box _ _ ⟨VM.self (by simpa using Bd.of_rdK hv0_0), trivial⟩⟩, ⟨_, rfl, OM.box _ _ ⟨vS, trivial⟩⟩, ⟨_, rfl, OM.box _ _ ⟨vS, vS, vS, vS, vS, trivial⟩⟩, ⟨_, rfl, OM.box _ _ ⟨vS, vS, vS, vS, vS, trivial⟩⟩, trivial⟩
               ·rw [if_pos f40] at h
                obtain ⟨x17, f41, h⟩ := bindE h
                try simp -implicitDefEqProofs only [go_sem, seval, f2, f4, f6, f8, hi1, f17, hi2, f35, f39, f40, hq, cmpr, List.getD_cons_zero, List.getD_cons_succ, List.contains_cons, List.contains_nil, Nat.reduceBEq, Bool.false_or, Bool.or_false, Bool.true_or, Bool.or_true, beq_self_eq_true]
                refine callV_eq (portolanlaw13_through_ok γ _ (by simp -implicitDefEqProofs only [go_sem, seval, f2, f4, f6, f8, hi1, f17, hi2, f35, f39, f40, hq]; try rfl) (by simp -implicitDefEqProofs only [go_sem, seval, f2, f4, f6, f8, hi1, f17, hi2, f35, f39, f40, hq]; try rfl) (by simp -implicitDefEqProofs only [go_sem, seval, f2, f4, f6, f8, hi1, f17, hi2, f35, f39, f40, hq]; try rfl) f41) rfl rfl ?_
                try simp -implicitDefEqProofs only [go_sem, seval, f2, f4, f6, f8, hi1, f17, hi2, f35, f39, f40, hq, cmpr, List.getD_cons_zero, List.getD_cons_succ, List.contains_cons, List.contains_nil, Nat.reduceBEq, Bool.false_or, Bool.or_false, Bool.true_or, Bool.or_true, beq_self_eq_true]
                cases f42 : (x17 != x12.M)
                ·rw [if_neg (nF f42)] at h
                 refine X_cond (lx_ok γ) ?_
                 simp -implicitDefEqProofs only [go_sem, seval, f2, f4, f6, f8, hi1, f17, hi2, f35, f39, f40, f42, hq]
                 refine X_skip ?_
                 try simp -implicitDefEqProofs only [go_sem]
                 refine X_reg (lx_ok γ) ?_
                 obtain rfl := sI h
                 simp -implicitDefEqProofs only [go_sem, seval, f2, f4, f6, f8, hi1, f17, hi2, f35, f39, f40, f42, hq]
                 refine kR_in rfl ?_ ⟨rfl, rfl⟩
                 exact To.mv [(0, 0), (1, 0), (2, 0), (3, 0)] (BaseR.refl hob) (by simp) (by decide) (by simp only [go_sem]; exact ⟨VM.refA (j := 0) (t := 0) rfl, VM.refA (j := 1) (t := 1) rfl, vS, VM.refA (j := 2) (t := 2) rfl, VM.refA (j := 3) (t := 3) rfl, VM.eqv (by rw [hw2]) (by simp)⟩) ⟨⟨_, rfl, OM.box _ _ ⟨VM.self (by simpa using Bd.of_rdK hv0_0), trivial⟩⟩, ⟨_, rfl, OM.box _ _ ⟨vS, trivial⟩⟩, ⟨_, rfl, OM.box _ _ ⟨vS, vS, vS, vS, vS, trivial⟩⟩, ⟨_, rfl, OM.box _ _ ⟨vS, vS, vS, vS, vS, trivial⟩⟩, trivial⟩
                ·rw [if_pos f42] at h
                 refine X_cond (lx_ok γ) ?_
                 simp -implicitDefEqProofs only [go_sem, seval, f2, f4, f6, f8, hi1, f17, hi2, f35, f39, f40, f42, hq]
                 refine X_sr (lx_ok γ) ?_
                 simp -implicitDefEqProofs only [go_sem, seval, f2, f4, f6, f8, hi1, f17, hi2, f35, f39, f40, f42, hq]
                 obtain rfl := sI h
                 have h := hr2 _ (ho2 (fun _ hs => nomatch hs))
                 obtain rfl := sI h
                 have h := hr1 _ (ho1 (fun _ hs => nomatch hs))
                 obtain rfl := sI h
                 refine X_ret ?_
                 simp -implicitDefEqProofs only [go_sem, seval, f2, f4, f6, f8, hi1, f17, hi2, f35, f39, f40, f42, hq]
                 exact Rt.mv0 (BaseR.refl hob) (by simp) (vS)
              ·rw [if_pos f39] at h
               try simp -implicitDefEqProofs only [go_sem, seval, f2, f4, f6, f8, hi1, f17, hi2, f35, f39, hq, cmpr, List.getD_cons_zero, List.getD_cons_succ, List.contains_cons, List.contains_nil, Nat.reduceBEq, Bool.false_or, Bool.or_false, Bool.true_or, Bool.or_true, beq_self_eq_true]
               refine X_condT (lx_ok γ) rfl ?_
               refine X_sr (lx_ok γ) ?_
               simp -implicitDefEqProofs only [go_sem, seval, f2, f4, f6, f8, hi1, f17, hi2, f35, f39, hq]
               obtain rfl := sI h
               have h := hr2 _ (ho2 (fun _ hs => nomatch hs))
               obtain rfl := sI h
               have h := hr1 _ (ho1 (fun _ hs => nomatch hs))
               obtain rfl := sI h
               refine X_ret ?_
               simp -implicitDefEqProofs only [go_sem, seval, f2, f4, f6, f8, hi1, f17, hi2, f35, f39, hq]
               exact Rt.mv0 (BaseR.refl hob) (by simp) (vS)
            ·simp -implicitDefEqProofs only [go_sem, List.map_cons, List.map_nil, Nat.reduceAdd, Nat.reduceEqDiff, reduceIte, Option.map_none, Option.map_some]
             obtain ⟨x11, f18, h⟩ := bindE h
             obtain ⟨f19, f20⟩ := ixL_nat f18
             have f21 : (0 : Int) ≤ (i2 : Int) := Int.natCast_nonneg _
             obtain ⟨x12, f22, h⟩ := bindE h
             obtain ⟨f23, f24, f25⟩ := ixL_some f22
             try simp only [Int.toNat_natCast, Int.reduceToNat] at f25
             obtain ⟨x13, f26, h⟩ := bindE h
             obtain ⟨f27, f28⟩ := ixL_nat f26
             have f29 : (0 : Int) ≤ (i2 : Int) := Int.natCast_nonneg _
             obtain ⟨x14, f30, h⟩ := bindE h
             obtain ⟨f31, f32, f33⟩ := ixL_some f30
             try simp only [Int.toNat_natCast, Int.reduceToNat] at f33
             try simp -implicitDefEqProofs only [go_sem, seval, f2, f4, f6, f8, hi1, f17, hi2, hq, f19, f20, f21, f23, f24, f25, f27, f28, f29, f31, f32, f33, cmpr, List.getD_cons_zero, List.getD_cons_succ, List.contains_cons, List.contains_nil, Nat.reduceBEq, Bool.false_or, Bool.or_false, Bool.true_or, Bool.or_true, beq_self_eq_true]
             refine X_seq ?_
             refine X_drawn (lx_ok γ) [[], [], [1], [], [3], [3, 4], [0, 1, 2, 3, 4, 5], [], [7], [0, 1, 2, 3, 4, 5, 6, 7, 8], [0, 1, 2, 3, 4, 5, 6, 7, 8, 9], [0, 1, 2, 3, 4, 5, 6, 7, 8, 9, 10], [0, 1, 2, 3, 4, 5, 6, 7, 8, 9, 10, 11], [0, 1, 2, 3, 4, 5, 6, 7, 8, 9, 10, 11, 12], [0, 1, 2, 3, 4, 5, 6, 7, 8, 9, 10, 11, 12, 13], [0, 1, 2, 3, 4, 5, 6, 7, 8, 9, 10, 11, 12, 13, 14], [0, 1, 2, 3, 4, 5, 6, 7, 8, 9, 10, 11, 12, 13, 14, 15], [0, 1, 2, 3, 4, 5, 6, 7, 8, 9, 10, 11, 12, 13, 14, 15, 16], [0, 1, 2, 3, 4, 5, 6, 7, 8, 9, 10, 11, 12, 13, 14, 15, 16, 17], [0, 1, 2, 3, 4, 5, 6, 7, 8, 9, 10, 11, 12, 13, 14, 15, 16, 17, 18], [0, 1, 2, 3, 4, 5, 6, 7, 8, 9, 10, 11, 12, 13, 14, 15, 16, 17, 18, 19], [0, 1, 2, 3, 4, 5, 6, 7, 8, 9, 10, 11, 12, 13, 14, 15, 16, 17, 18, 19], [0, 1, 2, 3, 4, 5, 6, 7, 8, 9, 10, 11, 12, 13, 14, 15, 16, 17, 18, 19, 21], [0, 1, 2, 3, 4, 5, 6, 7, 8, 9, 10, 11, 12, 13, 14, 15, 16, 17, 18, 19], [0, 1, 2, 3, 4, 5, 6, 7, 8, 9, 10, 11, 12, 13, 14, 15, 16, 17, 18, 19, 23], [0, 1, 2, 3, 4, 5, 6, 7, 8, 9, 10, 11, 12, 13, 14, 15, 16, 17, 18, 19, 23, 24], [0, 1, 2, 3, 4, 5, 6, 7, 8, 9, 10, 11, 12, 13, 14, 15, 16, 17, 18, 19, 20, 21, 22, 23, 24, 25], [0, 1, 2, 3, 4, 5, 6, 7, 8, 9, 10, 11, 12, 13, 14, 15, 16, 17, 18, 19], [0, 1, 2, 3, 4, 5, 6, 7, 8, 9, 10, 11, 12, 13, 14, 15, 16, 17, 18, 19, 27], [0, 1, 2, 3, 4, 5, 6, 7, 8, 9, 10, 11, 12, 13, 14, 15, 16, 17, 18, 19, 20, 21, 22, 23, 24, 25, 26, 27, 28], [0, 1, 2, 3, 4, 5, 6, 7, 8, 9, 10, 11, 12, 13, 14, 15, 16, 17, 18, 19, 20, 21, 22, 23, 24, 25, 26, 27, 28, 29], [0, 1, 2, 3, 4, 5, 6, 7, 8, 9, 10, 11, 12, 13, 14, 15, 16, 17, 18, 19, 20, 21, 22, 23, 24, 25, 26, 27, 28, 29, 30]] (fun i => match i with | _ => false) (by kernel_rfl) ?_
             obtain ⟨x15, f34, h⟩ := bindE h
             try simp -implicitDefEqProofs only [go_sem, seval, f2, f4, f6, f8, hi1, f17, hi2, hq, cmpr, List.getD_cons_zero, List.getD_cons_succ, List.contains_cons, List.contains_nil, Nat.reduceBEq, Bool.false_or, Bool.or_false, Bool.true_or, Bool.or_true, beq_self_eq_true]
             refine callV_eq (portolanlaw13_through_ok γ _ (by simp -implicitDefEqProofs only [go_sem, seval, f2, f4, f6, f8, hi1, f17, hi2, hq]; try rfl) (by simp -implicitDefEqProofs only [go_sem, seval, f2, f4, f6, f8, hi1, f17, hi2, hq]; try rfl) (by simp -implicitDefEqProofs only [go_sem, seval, f2, f4, f6, f8, hi1, f17, hi2, hq]; try rfl) f34) rfl rfl ?_
             cases f35 : (x15 != x12.N)
             ·rw [if_neg (nF f35)] at h
              cases f36 : (x12.Op == 22)
              ·rw [if_neg (nF f36)] at h
               try simp -implicitDefEqProofs only [go_sem, seval, f2, f4, f6, f8, hi1, f17, hi2, f35, f36, hq, cmpr, List.getD_cons_zero, List.getD_cons_succ, List.contains_cons, List.contains_nil, Nat.reduceBEq, Bool.false_or, Bool.or_false, Bool.true_or, Bool.or_true, beq_self_eq_true]
               refine X_condF (lx_ok γ) rfl ?_
               refine X_skip ?_
               try simp -implicitDefEqProofs only [go_sem]
               refine X_reg (lx_ok γ) ?_
               obtain rfl := sI h
               simp -implicitDefEqProofs only [go_sem, seval, f2, f4, f6, f8, hi1, f17, hi2, f35, f36, hq]
               refine kR_in rfl ?_ ⟨rfl, rfl⟩
               exact To.mv [(0, 0), (1, 0), (2, 0), (3, 0)] (BaseR.refl hob) (by simp) (by decide) (by simp only [go_sem]; exact ⟨VM.refA (j := 0) (t := 0) rfl, VM.refA (j := 1) (t := 1) rfl, vS, VM.refA (j := 2) (t := 2) rfl, VM.refA (j := 3) (t := 3) rfl, VM.eqv (by rw [hw2]) (by simp)⟩) ⟨⟨_, rfl, OM.box _ _ ⟨VM.self (by simpa using Bd.of_rdK hv0_0), trivial⟩⟩, ⟨_, rfl, OM.box _ _ ⟨vS, trivial⟩⟩, ⟨_, rfl, OM.box _ _ ⟨vS, vS, vS, vS, vS, trivial⟩⟩, ⟨_, rfl, OM.box _ _ ⟨vS, vS, vS, vS, vS, trivial⟩⟩, trivial⟩
              ·rw [if_pos f36] at h
               obtain ⟨x16, f37, h⟩ := bindE h
               try simp -implicitDefEqProofs only [go_sem, seval, f2, f4, f6, f8, hi1, f17, hi2, f35, f36, hq, cmpr, List.getD_cons_zero, List.getD_cons_succ, List.contains_cons, List.contains_nil, Nat.reduceBEq, Bool.false_or, Bool.or_false, Bool.true_or, Bool.or_true, beq_self_eq_true]
               refine callV_eq (portolanlaw13_through_ok γ _ (by simp -implicitDefEqProofs only [go_sem, seval, f2, f4, f6, f8, hi1, f17, hi2, f35, f36, hq]; try rfl) (by simp -implicitDefEqProofs only [go_sem, seval, f2, f4, f6, f8, hi1, f17, hi2, f35, f36, hq]; try rfl) (by simp -implicitDefEqProofs only [go_sem, seval, f2, f4, f6, f8, hi1, f17, hi2, f35, f36, hq]; try rfl) f37) rfl rfl ?_
               try simp -implicitDefEqProofs only [go_sem, seval, f2, f4, f6, f8, hi1, f17, hi2, f35, f36, hq, cmpr, List.getD_cons_zero, List.getD_cons_succ, List.contains_cons, List.contains_nil, Nat.reduceBEq, Bool.false_or, Bool.or_false, Bool.true_or, Bool.or_true, beq_self_eq_true]
               cases f38 : (x16 != x12.M)
               ·rw [if_neg (nF f38)] at h
                refine X_cond (lx_ok γ) ?_
                simp -implicitDefEqProofs only [go_sem, seval, f2, f4, f6, f8, hi1, f17, hi2, f35, f36, f38, hq]
                refine X_skip ?_
                try simp -implicitDefEqProofs only [go_sem]
                refine X_reg (lx_ok γ) ?_
                obtain rfl := sI h
                simp -implicitDefEqProofs only [go_sem, seval, f2, f4, f6, f8, hi1, f17, hi2, f35, f36, f38, hq]
                refine kR_in rfl ?_ ⟨rfl, rfl⟩
                exact To.mv [(0, 0), (1, 0), (2, 0), (3, 0)] (BaseR.refl hob) (by simp) (by decide) (by simp only [go_sem]; exact ⟨VM.refA (j := 0) (t := 0) rfl, VM.refA (j := 1) (t := 1) rfl, vS, VM.refA (j := 2) (t := 2) rfl, VM.refA (j := 3) (t := 3) rfl, VM.eqv (by rw [hw2]) (by simp)⟩) ⟨⟨_, rfl, OM.box _ _ ⟨VM.self (by simpa using Bd.of_rdK hv0_0), trivial⟩⟩, ⟨_, rfl, OM.box _ _ ⟨vS, trivial⟩⟩, ⟨_, rfl, OM.box _ _ ⟨vS, vS, vS, vS, vS, trivial⟩⟩, ⟨_, rfl, OM.box _ _ ⟨vS, vS, vS, vS, vS, trivial⟩⟩, trivial⟩
               ·rw [if_pos f38] at h
                refine X_cond (lx_ok γ) ?_
                simp -implicitDefEqProofs only [go_sem, seval, f2, f4, f6, f8, hi1, f17, hi2, f35, f36, f38, hq]
                refine X_sr (lx_ok γ) ?_
                simp -implicitDefEqProofs only [go_sem, seval, f2, f4, f6, f8, hi1, f17, hi2, f35, f36, f38, hq]
                obtain rfl := sI h
                have h := hr2 _ (ho2 (fun _ hs => nomatch hs))
                obtain rfl := sI h
                have h := hr1 _ (ho1 (fun _ hs => nomatch hs))
                obtain rfl := sI h
                refine X_ret ?_
                simp -implicitDefEqProofs only [go_sem, seval, f2, f4, f6, f8, hi1, f17, hi2, f35, f36, f38, hq]
                exact Rt.mv0 (BaseR.refl hob) (by simp) (vS)
             ·rw [if_pos f35] at h
              cases f39 : (x12.Op != 23)
              ·rw [if_neg (nF f39)] at h
               cases f40 : (x12.Op == 22)
               ·rw [if_neg (nF f40)] at h
                try simp -implicitDefEqProofs only [go_sem, seval, f2, f4, f6, f8, hi1, f17, hi2, f35, f39, f40, hq, cmpr, List.getD_cons_zero, List.getD_cons_succ, List.contains_cons, List.contains_nil, Nat.reduceBEq, Bool.false_or, Bool.or_false, Bool.true_or, Bool.or_true, beq_self_eq_true]
                refine X_condF (lx_ok γ) rfl ?_
                refine X_skip ?_
                try simp -implicitDefEqProofs only [go_sem]
                refine X_reg (lx_ok γ) ?_
                obtain rfl := sI h
                simp -implicitDefEqProofs only [go_sem, seval, f2, f4, f6, f8, hi1, f17, hi2, f35, f39, f40, hq]
                refine kR_in rfl ?_ ⟨rfl, rfl⟩
                exact To.mv [(0, 0), (1, 0), (2, 0), (3, 0)] (BaseR.refl hob) (by simp) (by decide) (by simp only [go_sem]; exact ⟨VM.refA (j := 0) (t := 0) rfl, VM.refA (j := 1) (t := 1) rfl, vS, VM.refA (j := 2) (t := 2) rfl, VM.refA (j := 3) (t := 3) rfl, VM.eqv (by rw [hw2]) (by simp)⟩) ⟨⟨_, rfl, OM.box _ _ ⟨VM.self (by simpa using Bd.of_rdK hv0_0), trivial⟩⟩, ⟨_, rfl, OM.box _ _ ⟨vS, trivial⟩⟩, ⟨_, rfl, OM.box _ _ ⟨vS, vS, vS, vS, vS, trivial⟩⟩, ⟨_, rfl, OM.box _ _ ⟨vS, vS, vS, vS, vS, trivial⟩⟩, trivial⟩
               ·rw [if_pos f40] at h
                obtain ⟨x17, f41, h⟩ := bindE h
                try simp -implicitDefEqProofs only [go_sem, seval, f2, f4, f6, f8, hi1, f17, hi2, f35, f39, f40, hq, cmpr, List.getD_cons_zero, List.getD_cons_succ, List.contains_cons, List.contains_nil, Nat.reduceBEq, Bool.false_or, Bool.or_false, Bool.true_or, Bool.or_true, beq_self_eq_true]
                refine callV_eq (portolanlaw13_through_ok γ _ (by simp -implicitDefEqProofs only [go_sem, seval, f2, f4, f6, f8, hi1, f17, hi2, f35, f39, f40, hq]; try rfl) (by simp -implicitDefEqProofs only [go_sem, seval, f2, f4, f6, f8, hi1, f17, hi2, f35, f39, f40, hq]; try rfl) (by simp -implicitDefEqProofs only [go_sem, seval, f2, f4, f6, f8, hi1, f17, hi2, f35, f39, f40, hq]; try rfl) f41) rfl rfl ?_
                try simp -implicitDefEqProofs only [go_sem, seval, f2, f4, f6, f8, hi1, f17, hi2, f35, f39, f40, hq, cmpr, List.getD_cons_zero, List.getD_cons_succ, List.contains_cons, List.contains_nil, Nat.reduceBEq, Bool.false_or, Bool.or_false, Bool.true_or, Bool.or_true, beq_self_eq_true]
                cases f42 : (x17 != x12.M)
                ·rw [if_neg (nF f42)] at h
                 refine X_cond (lx_ok γ) ?_
                 simp -implicitDefEqProofs only [go_sem, seval, f2, f4, f6, f8, hi1, f17, hi2, f35, f39, f40, f42, hq]
                 refine X_skip ?_
                 try simp -implicitDefEqProofs only [go_sem]
                 refine X_reg (lx_ok γ) ?_
                 obtain rfl := sI h
                 simp -implicitDefEqProofs only [go_sem, seval, f2, f4, f6, f8, hi1, f17, hi2, f35, f39, f40, f42, hq]
                 refine kR_in rfl ?_ ⟨rfl, rfl⟩
                 exact To.mv [(0, 0), (1, 0), (2, 0), (3, 0)] (BaseR.refl hob) (by simp) (by decide) (by simp only [go_sem]; exact ⟨VM.refA (j := 0) (t := 0) rfl, VM.refA (j := 1) (t := 1) rfl, vS, VM.refA (j := 2) (t := 2) rfl, VM.refA (j := 3) (t := 3) rfl, VM.eqv (by rw [hw2]) (by simp)⟩) ⟨⟨_, rfl, OM.box _ _ ⟨VM.self (by simpa using Bd.of_rdK hv0_0), trivial⟩⟩, ⟨_, rfl, OM.box _ _ ⟨vS, trivial⟩⟩, ⟨_, rfl, OM.box _ _ ⟨vS, vS, vS, vS, vS, trivial⟩⟩, ⟨_, rfl, OM.box _ _ ⟨vS, vS, vS, vS, vS, trivial⟩⟩, trivial⟩
                ·rw [if_pos f42] at h
                 refine X_cond (lx_ok γ) ?_
                 simp -implicitDefEqProofs only [go_sem, seval, f2, f4, f6, f8, hi1, f17, hi2, f35, f39, f40, f42, hq]
                 refine X_sr (lx_ok γ) ?_
                 simp -implicitDefEqProofs only [go_sem, seval, f2, f4, f6, f8, hi1, f17, hi2, f35, f39, f40, f42, hq]
                 obtain rfl := sI h
                 have h := hr2 _ (ho2 (fun _ hs => nomatch hs))
                 obtain rfl := sI h
                 have h := hr1 _ (ho1 (fun _ hs => nomatch hs))
                 obtain rfl := sI h
                 refine X_ret ?_
                 simp -implicitDefEqProofs only [go_sem, seval, f2, f4, f6, f8, hi1, f17, hi2, f35, f39, f40, f42, hq]
                 exact Rt.mv0 (BaseR.refl hob) (by simp) (vS)
              ·rw [if_pos f39] at h
               try simp -implicitDefEqProofs only [go_sem, seval, f2, f4, f6, f8, hi1, f17, hi2, f35, f39, hq, cmpr, List.getD_cons_zero, List.getD_cons_succ, List.contains_cons, List.contains_nil, Nat.reduceBEq, Bool.false_or, Bool.or_false, Bool.true_or, Bool.or_true, beq_self_eq_true]
               refine X_condT (lx_ok γ) rfl ?_
               refine X_sr (lx_ok γ) ?_
               simp -implicitDefEqProofs only [go_sem, seval, f2, f4, f6, f8, hi1, f17, hi2, f35, f39, hq]
               obtain rfl := sI h
               have h := hr2 _ (ho2 (fun _ hs => nomatch hs))
               obtain rfl := sI h
               have h := hr1 _ (ho1 (fun _ hs => nomatch hs))
               obtain rfl := sI h
               refine X_ret ?_
               simp -implicitDefEqProofs only [go_sem, seval, f2, f4, f6, f8, hi1, f17, hi2, f35, f39, hq]
               exact Rt.mv0 (BaseR.refl hob) (by simp) (vS)
           ·rintro i2 _ hi2 hn2 as1 ob1 ⟨rfl, rfl⟩
            refine X_seq ?_
            refine X_sr (lx_ok γ) ?_
            simp -implicitDefEqProofs only [go_sem, seval, f2, f4, f6, f8, hi1, f17, hi2, hq]
            refine X_cond (lx_ok γ) ?_
            simp -implicitDefEqProofs only [go_sem, seval, f2, f4, f6, f8, hi1, f17, hi2, hq]
            have h := hk2 _ (.inl hn2)
            refine X_exit ?_
            try simp -implicitDefEqProofs only [go_sem, ↓reduceIte, Nat.reduceEqDiff, reduceCtorEq]
            refine kJ_in ?_ ⟨h, rfl, rfl⟩
            exact To.mv [(0, 0), (1, 0)] (BaseR.refl hob) (by simp) (by decide) (by simp only [go_sem]; exact ⟨VM.refA (j := 0) (t := 0) rfl, VM.refA (j := 1) (t := 1) rfl, vS⟩) ⟨⟨_, rfl, OM.box _ _ ⟨VM.self (by simpa using Bd.of_rdK hv0_0), trivial⟩⟩, ⟨_, rfl, OM.box _ _ ⟨vS, trivial⟩⟩, trivial⟩
         ·rw [if_pos f17] at h
          refine X_cond (lx_ok γ) ?_
          simp -implicitDefEqProofs only [go_sem, seval, f2, f4, f6, f8, hi1, f17, hq]
          refine X_sr (lx_ok γ) ?_
          simp -implicitDefEqProofs only [go_sem, seval, f2, f4, f6, f8, hi1, f17, hq]
          obtain rfl := sI h
          have h := hr1 _ (ho1 (fun _ hs => nomatch hs))
          obtain rfl := sI h
          refine X_ret ?_
          simp -implicitDefEqProofs only [go_sem, seval, f2, f4, f6, f8, hi1, f17, hq]
          exact Rt.mv0 (BaseR.refl hob) (by simp) (vS)
        ·refine X_reg (lx_ok γ) ?_
         obtain ⟨x18, f43, h⟩ := bindE h
         simp -implicitDefEqProofs only [go_sem, seval, f2, f4, f6, f8, hi1, hq]
         refine callV_eq (edge_Critical_ok γ _  f43) rfl rfl ?_
         cases f44 : ((List.length x18 : Int) != 0)
         ·rw [if_neg (nF f44)] at h
          simp -implicitDefEqProofs only [go_sem, seval, f2, f4, f6, f8, hi1, f44, hq]
          refine kJ_in ?_ ⟨(decide ((List.length x7.Blocks : Int) < (List.length x6.Blocks : Int))), h, rfl, rfl⟩
          exact To.mv [(0, 0), (1, 0), (2, 0), (3, 0)] (BaseR.refl hob) (by simp) (by decide) (by simp only [go_sem]; exact ⟨VM.refA (j := 0) (t := 0) rfl, VM.refA (j := 1) (t := 1) rfl, vS, VM.refA (j := 2) (t := 2) rfl, VM.refA (j := 3) (t := 3) rfl, vS⟩) ⟨⟨_, rfl, OM.box _ _ ⟨VM.self (by simpa using Bd.of_rdK hv0_0), trivial⟩⟩, ⟨_, rfl, OM.box _ _ ⟨vS, trivial⟩⟩, ⟨_, rfl, OM.box _ _ ⟨vS, vS, vS, vS, vS, trivial⟩⟩, ⟨_, rfl, OM.box _ _ ⟨vS, vS, vS, vS, vS, trivial⟩⟩, trivial⟩
         ·rw [if_pos f44] at h
          simp -implicitDefEqProofs only [go_sem, seval, f2, f4, f6, f8, hi1, f44, hq]
          refine kJ_in ?_ ⟨true, h, rfl, rfl⟩
          exact To.mv [(0, 0), (1, 0), (2, 0), (3, 0)] (BaseR.refl hob) (by simp) (by decide) (by simp only [go_sem]; exact ⟨VM.refA (j := 0) (t := 0) rfl, VM.refA (j := 1) (t := 1) rfl, vS, VM.refA (j := 2) (t := 2) rfl, VM.refA (j := 3) (t := 3) rfl, vS⟩) ⟨⟨_, rfl, OM.box _ _ ⟨VM.self (by simpa using Bd.of_rdK hv0_0), trivial⟩⟩, ⟨_, rfl, OM.box _ _ ⟨vS, trivial⟩⟩, ⟨_, rfl, OM.box _ _ ⟨vS, vS, vS, vS, vS, trivial⟩⟩, ⟨_, rfl, OM.box _ _ ⟨vS, vS, vS, vS, vS, trivial⟩⟩, trivial⟩
       ·simp -implicitDefEqProofs only [go_sem, List.map_cons, List.map_nil, Nat.reduceAdd, Nat.reduceEqDiff, reduceIte, Option.map_none, Option.map_some]
        obtain ⟨x6, f9, h⟩ := bindE h
        obtain ⟨f10, f11⟩ := ixL_nat f9
        have f12 : (0 : Int) ≤ (i1 : Int) := Int.natCast_nonneg _
        obtain ⟨x7, f13, h⟩ := bindE h
        obtain ⟨f14, f15⟩ := ixL_nat f13
        have f16 : (0 : Int) ≤ (i1 : Int) := Int.natCast_nonneg _
        try simp -implicitDefEqProofs only [go_sem, seval, f2, f4, f6, f8, hi1, hq, f10, f11, f12, f14, f15, f16, cmpr, List.getD_cons_zero, List.getD_cons_succ, List.contains_cons, List.contains_nil, Nat.reduceBEq, Bool.false_or, Bool.or_false, Bool.true_or, Bool.or_true, beq_self_eq_true]
        refine X_seq ?_
        refine X_seq ?_
        refine X_jq (J := fun as1 ob1 => ∃ (x9 : Bool), portolanlaw13_EdgeNone.j1 x6 x7 x9 = some o1 ∧ [(1, V.ref ob.length 0), (3, V.ref (ob.length + 1) 0), (5, vint .i64 (i1 : Int)), (6, V.ref (ob.length + 2) 0), (7, V.ref (ob.length + 3) 0), (62, vbool x9)] = as1 ∧ ob ++ [some (O.box [v0_0]), some (O.box [V.tr (.sl 5 false (List.map e_Func x3.1.Funcs))]), some (O.box [V.tr (.sl 1 false (List.map (eI .i64) x6.Kinds)), V.tr (.sl 1 false (List.map (eI .i64) x6.Base)), vint .i64 x6.Params, vint .i64 x6.Result, V.tr (.sl 1 false (List.map e_Block x6.Blocks))]), some (O.box [V.tr (.sl 1 false (List.map (eI .i64) x7.Kinds)), V.tr (.sl 1 false (List.map (eI .i64) x7.Base)), vint .i64 x7.Params, vint .i64 x7.Result, V.tr (.sl 1 false (List.map e_Block x7.Blocks))])] = ob1) ?_ ?_
        ·rintro as1 ob1 ⟨x9, h, rfl, rfl⟩
         rw [portolanlaw13_EdgeNone.j1] at h
         simp -implicitDefEqProofs only [go_sem, seval, f2, f4, f6, f8, hi1, hq]
         cases f17 : x9
         ·rw [if_neg (nF f17)] at h
          refine X_cond (lx_ok γ) ?_
          simp -implicitDefEqProofs only [go_sem, seval, f2, f4, f6, f8, hi1, f17, hq]
          refine X_skip ?_
          try simp -implicitDefEqProofs only [go_sem]
          refine X_sr (lx_ok γ) ?_
          simp -implicitDefEqProofs only [go_sem, seval, f2, f4, f6, f8, hi1, f17, hq]
          refine X_jq (J := fun as1 ob1 => portolanlaw13_EdgeNone.k2 = some o1 ∧ [(1, V.ref ob.length 0), (3, V.ref (ob.length + 1) 0), (5, vint .i64 (i1 : Int))] = as1 ∧ ob ++ [some (O.box [v0_0]), some (O.box [V.tr (.sl 5 false (List.map e_Func x3.1.Funcs))])] = ob1) ?_ ?_
          ·rintro as1 ob1 ⟨h, rfl, rfl⟩
           rw [portolanlaw13_EdgeNone.k2] at h
           simp -implicitDefEqProofs only [go_sem, seval, f2, f4, f6, f8, hi1, f17, hq]
           refine X_reg (lx_ok γ) ?_
           obtain rfl := sI h
           simp -implicitDefEqProofs only [go_sem, seval, f2, f4, f6, f8, hi1, f17, hq]
           refine kR_in rfl ?_ ⟨rfl, rfl⟩
           exact To.mv [(0, 0), (1, 0)] (BaseR.refl hob) (by simp) (by decide) (by simp only [go_sem]; exact ⟨VM.refA (j := 0) (t := 0) rfl, VM.refA (j := 1) (t := 1) rfl, VM.eqv (by rw [hw1]) (by simp)⟩) ⟨⟨_, rfl, OM.box _ _ ⟨VM.self (by simpa using Bd.of_rdK hv0_0), trivial⟩⟩, ⟨_, rfl, OM.box _ _ ⟨vS, trivial⟩⟩, trivial⟩
          ·refine X_block ?_
           obtain ⟨lr2, hl2, hk2, hr2⟩ := aft2 h
           refine X_forN hl2 (fun (i2 : Nat) (s : Unit) as1 ob1 => [(1, V.ref ob.length 0), (3, V.ref (ob.length + 1) 0), (5, vint .i64 (i1 : Int)), (6, V.ref (ob.length + 2) 0), (7, V.ref (ob.length + 3) 0), (8, vint .i64 (i2 : Int))] = as1 ∧ ob ++ [some (O.box [v0_0]), some (O.box [V.tr (.sl 5 false (List.map e_Func x3.1.Funcs))]), some (O.box [V.tr (.sl 1 false (List.map (eI .i64) x6.Kinds)), V.tr (.sl 1 false (List.map (eI .i64) x6.Base)), vint .i64 x6.Params, vint .i64 x6.Result, V.tr (.sl 1 false (List.map e_Block x6.Blocks))]), some (O.box [V.tr (.sl 1 false (List.map (eI .i64) x7.Kinds)), V.tr (.sl 1 false (List.map (eI .i64) x7.Base)), vint .i64 x7.Params, vint .i64 x7.Result, V.tr (.sl 1 false (List.map e_Block x7.Blocks))])] = ob1) ⟨_, _, ?_, rfl, rfl⟩ ?_ ?_
           ·exact To.mv [(0, 0), (1, 0), (2, 0), (3, 0)] (BaseR.refl hob) (by simp) (by decide) (by simp only [go_sem]; exact ⟨VM.refA (j := 0) (t := 0) rfl, VM.refA (j := 1) (t := 1) rfl, vS, VM.refA (j := 2) (t := 2) rfl, VM.refA (j := 3) (t := 3) rfl, VM.eqv (by simp) (by simp)⟩) ⟨⟨_, rfl, OM.box _ _ ⟨VM.self (by simpa using Bd.of_rdK hv0_0), trivial⟩⟩, ⟨_, rfl, OM.box _ _ ⟨vS, trivial⟩⟩, ⟨_, rfl, OM.box _ _ ⟨vS, vS, vS, vS, vS, trivial⟩⟩, ⟨_, rfl, OM.box _ _ ⟨vS, vS, vS, vS, vS, trivial⟩⟩, trivial⟩
           ·rintro i2 _ o2 hi2 hw2 h ho2 as1 ob1 ⟨rfl, rfl⟩
            rw [portolanlaw13_EdgeNone.b2] at h
            refine X_seq ?_
            refine X_sr (lx_ok γ) ?_
            simp -implicitDefEqProofs only [go_sem, seval, f2, f4, f6, f8, hi1, f17, hi2, hq]
            refine X_cond (lx_ok γ) ?_
            simp -implicitDefEqProofs only [go_sem, seval, f2, f4, f6, f8, hi1, f17, hi2, hq]
            refine X_skip ?_
            try simp -implicitDefEqProofs only [go_sem]
            refine X_seq ?_
            refine X_block ?_
            refine X_seq ?_
            refine X_drawn2 (lx_ok γ) 32 [[], [0], [], [0, 1, 2], [0, 1, 2, 3], [0, 1, 2, 3, 4], [], [6], [], [6, 7, 8], [6, 7, 8, 9], [6, 7, 8, 9, 10], [6, 7, 8, 9, 10, 11], [6, 7, 8, 9, 10, 11, 12], [0, 1, 2, 3, 4, 5, 6, 7, 8, 9, 10, 11, 12, 13], [0, 1, 2, 3, 4, 5, 6, 7, 8, 9, 10, 11, 12, 13, 14], [], [16], [], [16, 17, 18], [16, 17, 18, 19], [16, 17, 18, 19, 20], [], [22], [], [22, 23, 24], [22, 23, 24, 25], [22, 23, 24, 25, 26], [22, 23, 24, 25, 26, 27], [22, 23, 24, 25, 26, 27, 28], [16, 17, 18, 19, 20, 21, 22, 23, 24, 25, 26, 27, 28, 29], [16, 17, 18, 19, 20, 21, 22, 23, 24, 25, 26, 27, 28, 29, 30], [], [32], [0, 1, 2, 3, 4, 5, 6, 7, 8, 9, 10, 11, 12, 13, 14, 15, 32, 33], [0, 1, 2, 3, 4, 5, 6, 7, 8, 9, 10, 11, 12, 13, 14, 15, 16, 17, 18, 19, 20, 21, 22, 23, 24, 25, 26, 27, 28, 29, 30, 31, 32, 33, 34]] (fun i => match i with | 32 => true | 33 => true | 34 => true | 35 => true | _ => false) [[], [0], [], [0, 1, 2], [0, 1, 2, 3], [0, 1, 2, 3, 4], [], [6], [], [6, 7, 8], [6, 7, 8, 9], [6, 7, 8, 9, 10], [6, 7, 8, 9, 10, 11], [6, 7, 8, 9, 10, 11, 12], [0, 1, 2, 3, 4, 5, 6, 7, 8, 9, 10, 11, 12, 13], [0, 1, 2, 3, 4, 5, 6, 7, 8, 9, 10, 11, 12, 13, 14], [], [16], [], [16, 17, 18], [16, 17, 18, 19], [16, 17, 18, 19, 20], [], [22], [], [22, 23, 24], [22, 23, 24, 25], [22, 23, 24, 25, 26], [22, 23, 24, 25, 26, 27], [22, 23, 24, 25, 26, 27, 28], [16, 17, 18, 19, 20, 21, 22, 23, 24, 25, 26, 27, 28, 29], [16, 17, 18, 19, 20, 21, 22, 23, 24, 25, 26, 27, 28, 29, 30], [], [32], [0, 1, 2, 3, 4, 5, 6, 7, 8, 9, 10, 11, 12, 13, 14, 15, 32, 33], [0, 1, 2, 3, 4, 5, 6, 7, 8, 9, 10, 11, 12, 13, 14, 15, 16, 17, 18, 19, 20, 21, 22, 23, 24, 25, 26, 27, 28, 29, 30, 31, 32, 33, 34]] (fun i => match i with | 32 => true | 33 => true | 34 => true | 35 => true | _ => false) (by decide) (by kernel_rfl) (by kernel_rfl) ?_ ?_
            ·simp -implicitDefEqProofs only [go_sem, List.map_cons, List.map_nil, Nat.reduceAdd, Nat.reduceEqDiff, reduceIte, Option.map_none, Option.map_some]
             obtain ⟨x11, f18, h⟩ := bindE h
             obtain ⟨f19, f20⟩ := ixL_nat f18
             have f21 : (0 : Int) ≤ (i2 : Int) := Int.natCast_nonneg _
             obtain ⟨x12, f22, h⟩ := bindE h
             obtain ⟨f23, f24, f25⟩ := ixL_some f22
             try simp only [Int.toNat_natCast, Int.reduceToNat] at f25
             obtain ⟨x13, f26, h⟩ := bindE h
             obtain ⟨f27, f28⟩ := ixL_nat f26
             have f29 : (0 : Int) ≤ (i2 : Int) := Int.natCast_nonneg _
             obtain ⟨x14, f30, h⟩ := bindE h
             obtain ⟨f31, f32, f33⟩ := ixL_some f30
             try simp only [Int.toNat_natCast, Int.reduceToNat] at f33
             try simp -implicitDefEqProofs only [go_sem, seval, f2, f4, f6, f8, hi1, f17, hi2, hq, f19, f20, f21, f23, f24, f25, f27, f28, f29, f31, f32, f33, cmpr, List.getD_cons_zero, List.getD_cons_succ, List.contains_cons, List.contains_nil, Nat.reduceBEq, Bool.false_or, Bool.or_false, Bool.true_or, Bool.or_true, beq_self_eq_true]
             refine X_seq ?_
             refine X_drawn (lx_ok γ) [[], [], [1], [], [3], [3, 4], [0, 1, 2, 3, 4, 5], [], [7], [0, 1, 2, 3, 4, 5, 6, 7, 8], [0, 1, 2, 3, 4, 5, 6, 7, 8, 9], [0, 1, 2, 3, 4, 5, 6, 7, 8, 9, 10], [0, 1, 2, 3, 4, 5, 6, 7, 8, 9, 10, 11], [0, 1, 2, 3, 4, 5, 6, 7, 8, 9, 10, 11, 12], [0, 1, 2, 3, 4, 5, 6, 7, 8, 9, 10, 11, 12, 13], [0, 1, 2, 3, 4, 5, 6, 7, 8, 9, 10, 11, 12, 13, 14], [0, 1, 2, 3, 4, 5, 6, 7, 8, 9, 10, 11, 12, 13, 14, 15], [0, 1, 2, 3, 4, 5, 6, 7, 8, 9, 10, 11, 12, 13, 14, 15, 16], [0, 1, 2, 3, 4, 5, 6, 7, 8, 9, 10, 11, 12, 13, 14, 15, 16, 17], [0, 1, 2, 3, 4, 5, 6, 7, 8, 9, 10, 11, 12, 13, 14, 15, 16, 17, 18], [0, 1, 2, 3, 4, 5, 6, 7, 8, 9, 10, 11, 12, 13, 14, 15, 16, 17, 18, 19], [0, 1, 2, 3, 4, 5, 6, 7, 8, 9, 10, 11, 12, 13, 14, 15, 16, 17, 18, 19], [0, 1, 2, 3, 4, 5, 6, 7, 8, 9, 10, 11, 12, 13, 14, 15, 16, 17, 18, 19, 21], [0, 1, 2, 3, 4, 5, 6, 7, 8, 9, 10, 11, 12, 13, 14, 15, 16, 17, 18, 19], [0, 1, 2, 3, 4, 5, 6, 7, 8, 9, 10, 11, 12, 13, 14, 15, 16, 17, 18, 19, 23], [0, 1, 2, 3, 4, 5, 6, 7, 8, 9, 10, 11, 12, 13, 14, 15, 16, 17, 18, 19, 23, 24], [0, 1, 2, 3, 4, 5, 6, 7, 8, 9, 10, 11, 12, 13, 14, 15, 16, 17, 18, 19, 20, 21, 22, 23, 24, 25], [0, 1, 2, 3, 4, 5, 6, 7, 8, 9, 10, 11, 12, 13, 14, 15, 16, 17, 18, 19], [0, 1, 2, 3, 4, 5, 6, 7, 8, 9, 10, 11, 12, 13, 14, 15, 16, 17, 18, 19, 27], [0, 1, 2, 3, 4, 5, 6, 7, 8, 9, 10, 11, 12, 13, 14, 15, 16, 17, 18, 19, 20, 21, 22, 23, 24, 25, 26, 27, 28], [0, 1, 2, 3, 4, 5, 6, 7, 8, 9, 10, 11, 12, 13, 14, 15, 16, 17, 18, 19, 20, 21, 22, 23, 24, 25, 26, 27, 28, 29], [0, 1, 2, 3, 4, 5, 6, 7, 8, 9, 10, 11, 12, 13, 14, 15, 16, 17, 18, 19, 20, 21, 22, 23, 24, 25, 26, 27, 28, 29, 30]] (fun i => match i with | _ => false) (by kernel_rfl) ?_
             obtain ⟨x15, f34, h⟩ := bindE h
             try simp -implicitDefEqProofs only [go_sem, seval, f2, f4, f6, f8, hi1, f17, hi2, hq, cmpr, List.getD_cons_zero, List.getD_cons_succ, List.contains_cons, List.contains_nil, Nat.reduceBEq, Bool.false_or, Bool.or_false, Bool.true_or, Bool.or_true, beq_self_eq_true]
             refine callV_eq (portolanlaw13_through_ok γ _ (by simp -implicitDefEqProofs only [go_sem, seval, f2, f4, f6, f8, hi1, f17, hi2, hq]; try rfl) (by simp -implicitDefEqProofs only [go_sem, seval, f2, f4, f6, f8, hi1, f17, hi2, hq]; try rfl) (by simp -implicitDefEqProofs only [go_sem, seval, f2, f4, f6, f8, hi1, f17, hi2, hq]; try rfl) f34) rfl rfl ?_
             cases f35 : (x15 != x12.N)
             ·rw [if_neg (nF f35)] at h
              cases f36 : (x12.Op == 22)
              ·rw [if_neg (nF f36)] at h
               try simp -implicitDefEqProofs only [go_sem, seval, f2, f4, f6, f8, hi1, f17, hi2, f35, f36, hq, cmpr, List.getD_cons_zero, List.getD_cons_succ, List.contains_cons, List.contains_nil, Nat.reduceBEq, Bool.false_or, Bool.or_false, Bool.true_or, Bool.or_true, beq_self_eq_true]
               refine X_condF (lx_ok γ) rfl ?_
               refine X_skip ?_
               try simp -implicitDefEqProofs only [go_sem]
               refine X_reg (lx_ok γ) ?_
               obtain rfl := sI h
               simp -implicitDefEqProofs only [go_sem, seval, f2, f4, f6, f8, hi1, f17, hi2, f35, f36, hq]
               refine kR_in rfl ?_ ⟨rfl, rfl⟩
               exact To.mv [(0, 0), (1, 0), (2, 0), (3, 0)] (BaseR.refl hob) (by simp) (by decide) (by simp only [go_sem]; exact ⟨VM.refA (j := 0) (t := 0) rfl, VM.refA (j := 1) (t := 1) rfl, vS, VM.refA (j := 2) (t := 2) rfl, VM.refA (j := 3) (t := 3) rfl, VM.eqv (by rw [hw2]) (by simp)⟩) ⟨⟨_, rfl, OM.box _ _ ⟨VM.self (by simpa using Bd.of_rdK hv0_0), trivial⟩⟩, ⟨_, rfl, OM.box _ _ ⟨vS, trivial⟩⟩, ⟨_, rfl, OM.box _ _ ⟨vS, vS, vS, vS, vS, trivial⟩⟩, ⟨_, rfl, OM.box _ _ ⟨vS, vS, vS, vS, vS, trivial⟩⟩, trivial⟩
              ·rw [if_pos f36] at h
               obtain ⟨x16, f37, h⟩ := bindE h
               try simp -implicitDefEqProofs only [go_sem, seval, f2, f4, f6, f8, hi1, f17, hi2, f35, f36, hq, cmpr, List.getD_cons_zero, List.getD_cons_succ, List.contains_cons, List.contains_nil, Nat.reduceBEq, Bool.false_or, Bool.or_false, Bool.true_or, Bool.or_true, beq_self_eq_true]
               refine callV_eq (portolanlaw13_through_ok γ _ (by simp -implicitDefEqProofs only [go_sem, seval, f2, f4, f6, f8, hi1, f17, hi2, f35, f36, hq]; try rfl) (by simp -implicitDefEqProofs only [go_sem, seval, f2, f4, f6, f8, hi1, f17, hi2, f35, f36, hq]; try rfl) (by simp -implicitDefEqProofs only [go_sem, seval, f2, f4, f6, f8, hi1, f17, hi2, f35, f36, hq]; try rfl) f37) rfl rfl ?_
               try simp -implicitDefEqProofs only [go_sem, seval, f2, f4, f6, f8, hi1, f17, hi2, f35, f36, hq, cmpr, List.getD_cons_zero, List.getD_cons_succ, List.contains_cons, List.contains_nil, Nat.reduceBEq, Bool.false_or, Bool.or_false, Bool.true_or, Bool.or_true, beq_self_eq_true]
               cases f38 : (x16 != x12.M)
               ·rw [if_neg (nF f38)] at h
                refine X_cond (lx_ok γ) ?_
                simp -implicitDefEqProofs only [go_sem, seval, f2, f4, f6, f8, hi1, f17, hi2, f35, f36, f38, hq]
                refine X_skip ?_
                try simp -implicitDefEqProofs only [go_sem]
                refine X_reg (lx_ok γ) ?_
                obtain rfl := sI h
                simp -implicitDefEqProofs only [go_sem, seval, f2, f4, f6, f8, hi1, f17, hi2, f35, f36, f38, hq]
                refine kR_in rfl ?_ ⟨rfl, rfl⟩
                exact To.mv [(0, 0), (1, 0), (2, 0), (3, 0)] (BaseR.refl hob) (by simp) (by decide) (by simp only [go_sem]; exact ⟨VM.refA (j := 0) (t := 0) rfl, VM.refA (j := 1) (t := 1) rfl, vS, VM.refA (j := 2) (t := 2) rfl, VM.refA (j := 3) (t := 3) rfl, VM.eqv (by rw [hw2]) (by simp)⟩) ⟨⟨_, rfl, OM.box _ _ ⟨VM.self (by simpa using Bd.of_rdK hv0_0), trivial⟩⟩, ⟨_, rfl, OM.box _ _ ⟨vS, trivial⟩⟩, ⟨_, rfl, OM.box _ _ ⟨vS, vS, vS, vS, vS, trivial⟩⟩, ⟨_, rfl, OM.box _ _ ⟨vS, vS, vS, vS, vS, trivial⟩⟩, trivial⟩
               ·rw [if_pos f38] at h
                refine X_cond (lx_ok γ) ?_
                simp -implicitDefEqProofs only [go_sem, seval, f2, f4, f6, f8, hi1, f17, hi2, f35, f36, f38, hq]
                refine X_sr (lx_ok γ) ?_
                simp -implicitDefEqProofs only [go_sem, seval, f2, f4, f6, f8, hi1, f17, hi2, f35, f36, f38, hq]
                obtain rfl := sI h
                have h := hr2 _ (ho2 (fun _ hs => nomatch hs))
                obtain rfl := sI h
                have h := hr1 _ (ho1 (fun _ hs => nomatch hs))
                obtain rfl := sI h
                refine X_ret ?_
                simp -implicitDefEqProofs only [go_sem, seval, f2, f4, f6, f8, hi1, f17, hi2, f35, f36, f38, hq]
                exact Rt.mv0 (BaseR.refl hob) (by simp) (vS)
             ·rw [if_pos f35] at h
              cases f39 : (x12.Op != 23)
              ·rw [if_neg (nF f39)] at h
               cases f40 : (x12.Op == 22)
               ·rw [if_neg (nF f40)] at h
                try simp -implicitDefEqProofs only [go_sem, seval, f2, f4, f6, f8, hi1, f17, hi2, f35, f39, f40, hq, cmpr, List.getD_cons_zero, List.getD_cons_succ, List.contains_cons, List.contains_nil, Nat.reduceBEq, Bool.false_or, Bool.or_false, Bool.true_or, Bool.or_true, beq_self_eq_true]
                refine X_condF (lx_ok γ) rfl ?_
                refine X_skip ?_
                try simp -implicitDefEqProofs only [go_sem]
                refine X_reg (lx_ok γ) ?_
                obtain rfl := sI h
                simp -implicitDefEqProofs only [go_sem, seval, f2, f4, f6, f8, hi1, f17, hi2, f35, f39, f40, hq]
                refine kR_in rfl ?_ ⟨rfl, rfl⟩
                exact To.mv [(0, 0), (1, 0), (2, 0), (3, 0)] (BaseR.refl hob) (by simp) (by decide) (by simp only [go_sem]; exact ⟨VM.refA (j := 0) (t := 0) rfl, VM.refA (j := 1) (t := 1) rfl, vS, VM.refA (j := 2) (t := 2) rfl, VM.refA (j := 3) (t := 3) rfl, VM.eqv (by rw [hw2]) (by simp)⟩) ⟨⟨_, rfl, OM.box _ _ ⟨VM.self (by simpa using Bd.of_rdK hv0_0), trivial⟩⟩, ⟨_, rfl, OM.box _ _ ⟨vS, trivial⟩⟩, ⟨_, rfl, OM.box _ _ ⟨vS, vS, vS, vS, vS, trivial⟩⟩, ⟨_, rfl, OM.box _ _ ⟨vS, vS, vS, vS, vS, trivial⟩⟩, trivial⟩
               ·rw [if_pos f40] at h
                obtain ⟨x17, f41, h⟩ := bindE h
                try simp -implicitDefEqProofs only [go_sem, seval, f2, f4, f6, f8, hi1, f17, hi2, f35, f39, f40, hq, cmpr, List.getD_cons_zero, List.getD_cons_succ, List.contains_cons, List.contains_nil, Nat.reduceBEq, Bool.false_or, Bool.or_false, Bool.true_or, Bool.or_true, beq_self_eq_true]
                refine callV_eq (portolanlaw13_through_ok γ _ (by simp -implicitDefEqProofs only [go_sem, seval, f2, f4, f6, f8, hi1, f17, hi2, f35, f39, f40, hq]; try rfl) (by simp -implicitDefEqProofs only [go_sem, seval, f2, f4, f6, f8, hi1, f17, hi2, f35, f39, f40, hq]; try rfl) (by simp -implicitDefEqProofs only [go_sem, seval, f2, f4, f6, f8, hi1, f17, hi2, f35, f39, f40, hq]; try rfl) f41) rfl rfl ?_
                try simp -implicitDefEqProofs only [go_sem, seval, f2, f4, f6, f8, hi1, f17, hi2, f35, f39, f40, hq, cmpr, List.getD_cons_zero, List.getD_cons_succ, List.contains_cons, List.contains_nil, Nat.reduceBEq, Bool.false_or, Bool.or_false, Bool.true_or, Bool.or_true, beq_self_eq_true]
                cases f42 : (x17 != x12.M)
                ·rw [if_neg (nF f42)] at h
                 refine X_cond (lx_ok γ) ?_
                 simp -implicitDefEqProofs only [go_sem, seval, f2, f4, f6, f8, hi1, f17, hi2, f35, f39, f40, f42, hq]
                 refine X_skip ?_
                 try simp -implicitDefEqProofs only [go_sem]
                 refine X_reg (lx_ok γ) ?_
                 obtain rfl := sI h
                 simp -implicitDefEqProofs only [go_sem, seval, f2, f4, f6, f8, hi1, f17, hi2, f35, f39, f40, f42, hq]
                 refine kR_in rfl ?_ ⟨rfl, rfl⟩
                 exact To.mv [(0, 0), (1, 0), (2, 0), (3, 0)] (BaseR.refl hob) (by simp) (by decide) (by simp only [go_sem]; exact ⟨VM.refA (j := 0) (t := 0) rfl, VM.refA (j := 1) (t := 1) rfl, vS, VM.refA (j := 2) (t := 2) rfl, VM.refA (j := 3) (t := 3) rfl, VM.eqv (by rw [hw2]) (by simp)⟩) ⟨⟨_, rfl, OM.box _ _ ⟨VM.self (by simpa using Bd.of_rdK hv0_0), trivial⟩⟩, ⟨_, rfl, OM.box _ _ ⟨vS, trivial⟩⟩, ⟨_, rfl, OM.box _ _ ⟨vS, vS, vS, vS, vS, trivial⟩⟩, ⟨_, rfl, OM.box _ _ ⟨vS, vS, vS, vS, vS, trivial⟩⟩, trivial⟩
                ·rw [if_pos f42] at h
                 refine X_cond (lx_ok γ) ?_
                 simp -implicitDefEqProofs only [go_sem, seval, f2, f4, f6, f8, hi1, f17, hi2, f35, f39, f40, f42, hq]
                 refine X_sr (lx_ok γ) ?_
                 simp -implicitDefEqProofs only [go_sem, seval, f2, f4, f6, f8, hi1, f17, hi2, f35, f39, f40, f42, hq]
                 obtain rfl := sI h
                 have h := hr2 _ (ho2 (fun _ hs => nomatch hs))
                 obtain rfl := sI h
                 have h := hr1 _ (ho1 (fun _ hs => nomatch hs))
                 obtain rfl := sI h
                 refine X_ret ?_
                 simp -implicitDefEqProofs only [go_sem, seval, f2, f4, f6, f8, hi1, f17, hi2, f35, f39, f40, f42, hq]
                 exact Rt.mv0 (BaseR.refl hob) (by simp) (vS)
              ·rw [if_pos f39] at h
               try simp -implicitDefEqProofs only [go_sem, seval, f2, f4, f6, f8, hi1, f17, hi2, f35, f39, hq, cmpr, List.getD_cons_zero, List.getD_cons_succ, List.contains_cons, List.contains_nil, Nat.reduceBEq, Bool.false_or, Bool.or_false, Bool.true_or, Bool.or_true, beq_self_eq_true]
               refine X_condT (lx_ok γ) rfl ?_
               refine X_sr (lx_ok γ) ?_
               simp -implicitDefEqProofs only [go_sem, seval, f2, f4, f6, f8, hi1, f17, hi2, f35, f39, hq]
               obtain rfl := sI h
               have h := hr2 _ (ho2 (fun _ hs => nomatch hs))
               obtain rfl := sI h
               have h := hr1 _ (ho1 (fun _ hs => nomatch hs))
               obtain rfl := sI h
               refine X_ret ?_
               simp -implicitDefEqProofs only [go_sem, seval, f2, f4, f6, f8, hi1, f17, hi2, f35, f39, hq]
               exact Rt.mv0 (BaseR.refl hob) (by simp) (vS)
            ·simp -implicitDefEqProofs only [go_sem, List.map_cons, List.map_nil, Nat.reduceAdd, Nat.reduceEqDiff, reduceIte, Option.map_none, Option.map_some]
             obtain ⟨x11, f18, h⟩ := bindE h
             obtain ⟨f19, f20⟩ := ixL_nat f18
             have f21 : (0 : Int) ≤ (i2 : Int) := Int.natCast_nonneg _
             obtain ⟨x12, f22, h⟩ := bindE h
             obtain ⟨f23, f24, f25⟩ := ixL_some f22
             try simp only [Int.toNat_natCast, Int.reduceToNat] at f25
             obtain ⟨x13, f26, h⟩ := bindE h
             obtain ⟨f27, f28⟩ := ixL_nat f26
             have f29 : (0 : Int) ≤ (i2 : Int) := Int.natCast_nonneg _
             obtain ⟨x14, f30, h⟩ := bindE h
             obtain ⟨f31, f32, f33⟩ := ixL_some f30
             try simp only [Int.toNat_natCast, Int.reduceToNat] at f33
             try simp -implicitDefEqProofs only [go_sem, seval, f2, f4, f6, f8, hi1, f17, hi2, hq, f19, f20, f21, f23, f24, f25, f27, f28, f29, f31, f32, f33, cmpr, List.getD_cons_zero, List.getD_cons_succ, List.contains_cons, List.contains_nil, Nat.reduceBEq, Bool.false_or, Bool.or_false, Bool.true_or, Bool.or_true, beq_self_eq_true]
             refine X_seq ?_
             refine X_drawn (lx_ok γ) [[], [], [1], [], [3], [3, 4], [0, 1, 2, 3, 4, 5], [], [7], [0, 1, 2, 3, 4, 5, 6, 7, 8], [0, 1, 2, 3, 4, 5, 6, 7, 8, 9], [0, 1, 2, 3, 4, 5, 6, 7, 8, 9, 10], [0, 1, 2, 3, 4, 5, 6, 7, 8, 9, 10, 11], [0, 1, 2, 3, 4, 5, 6, 7, 8, 9, 10, 11, 12], [0, 1, 2, 3, 4, 5, 6, 7, 8, 9, 10, 11, 12, 13], [0, 1, 2, 3, 4, 5, 6, 7, 8, 9, 10, 11, 12, 13, 14], [0, 1, 2, 3, 4, 5, 6, 7, 8, 9, 10, 11, 12, 13, 14, 15], [0, 1, 2, 3, 4, 5, 6, 7, 8, 9, 10, 11, 12, 13, 14, 15, 16], [0, 1, 2, 3, 4, 5, 6, 7, 8, 9, 10, 11, 12, 13, 14, 15, 16, 17], [0, 1, 2, 3, 4, 5, 6, 7, 8, 9, 10, 11, 12, 13, 14, 15, 16, 17, 18], [0, 1, 2, 3, 4, 5, 6, 7, 8, 9, 10, 11, 12, 13, 14, 15, 16, 17, 18, 19], [0, 1, 2, 3, 4, 5, 6, 7, 8, 9, 10, 11, 12, 13, 14, 15, 16, 17, 18, 19], [0, 1, 2, 3, 4, 5, 6, 7, 8, 9, 10, 11, 12, 13, 14, 15, 16, 17, 18, 19, 21], [0, 1, 2, 3, 4, 5, 6, 7, 8, 9, 10, 11, 12, 13, 14, 15, 16, 17, 18, 19], [0, 1, 2, 3, 4, 5, 6, 7, 8, 9, 10, 11, 12, 13, 14, 15, 16, 17, 18, 19, 23], [0, 1, 2, 3, 4, 5, 6, 7, 8, 9, 10, 11, 12, 13, 14, 15, 16, 17, 18, 19, 23, 24], [0, 1, 2, 3, 4, 5, 6, 7, 8, 9, 10, 11, 12, 13, 14, 15, 16, 17, 18, 19, 20, 21, 22, 23, 24, 25], [0, 1, 2, 3, 4, 5, 6, 7, 8, 9, 10, 11, 12, 13, 14, 15, 16, 17, 18, 19], [0, 1, 2, 3, 4, 5, 6, 7, 8, 9, 10, 11, 12, 13, 14, 15, 16, 17, 18, 19, 27], [0, 1, 2, 3, 4, 5, 6, 7, 8, 9, 10, 11, 12, 13, 14, 15, 16, 17, 18, 19, 20, 21, 22, 23, 24, 25, 26, 27, 28], [0, 1, 2, 3, 4, 5, 6, 7, 8, 9, 10, 11, 12, 13, 14, 15, 16, 17, 18, 19, 20, 21, 22, 23, 24, 25, 26, 27, 28, 29], [0, 1, 2, 3, 4, 5, 6, 7, 8, 9, 10, 11, 12, 13, 14, 15, 16, 17, 18, 19, 20, 21, 22, 23, 24, 25, 26, 27, 28, 29, 30]] (fun i => match i with | _ => false) (by kernel_rfl) ?_
             obtain ⟨x15, f34, h⟩ := bindE h
             try simp -implicitDefEqProofs only [go_sem, seval, f2, f4, f6, f8, hi1, f17, hi2, hq, cmpr, List.getD_cons_zero, List.getD_cons_succ, List.contains_cons, List.contains_nil, Nat.reduceBEq, Bool.false_or, Bool.or_false, Bool.true_or, Bool.or_true, beq_self_eq_true]
             refine callV_eq (portolanlaw13_through_ok γ _ (by simp -implicitDefEqProofs only [go_sem, seval, f2, f4, f6, f8, hi1, f17, hi2, hq]; try rfl) (by simp -implicitDefEqProofs only [go_sem, seval, f2, f4, f6, f8, hi1, f17, hi2, hq]; try rfl) (by simp -implicitDefEqProofs only [go_sem, seval, f2, f4, f6, f8, hi1, f17, hi2, hq]; try rfl) f34) rfl rfl ?_
             cases f35 : (x15 != x12.N)
             ·rw [if_neg (nF f35)] at h
              cases f36 : (x12.Op == 22)
              ·rw [if_neg (nF f36)] at h
               try simp -implicitDefEqProofs only [go_sem, seval, f2, f4, f6, f8, hi1, f17, hi2, f35, f36, hq, cmpr, List.getD_cons_zero, List.getD_cons_succ, List.contains_cons, List.contains_nil, Nat.reduceBEq, Bool.false_or, Bool.or_false, Bool.true_or, Bool.or_true, beq_self_eq_true]
               refine X_condF (lx_ok γ) rfl ?_
               refine X_skip ?_
               try simp -implicitDefEqProofs only [go_sem]
               refine X_reg (lx_ok γ) ?_
               obtain rfl := sI h
               simp -implicitDefEqProofs only [go_sem, seval, f2, f4, f6, f8, hi1, f17, hi2, f35, f36, hq]
               refine kR_in rfl ?_ ⟨rfl, rfl⟩
               exact To.mv [(0, 0), (1, 0), (2, 0), (3, 0)] (BaseR.refl hob) (by simp) (by decide) (by simp only [go_sem]; exact ⟨VM.refA (j := 0) (t := 0) rfl, VM.refA (j := 1) (t := 1) rfl, vS, VM.refA (j := 2) (t := 2) rfl, VM.refA (j := 3) (t := 3) rfl, VM.eqv (by rw [hw2]) (by simp)⟩) ⟨⟨_, rfl, OM.box _ _ ⟨VM.self (by simpa using Bd.of_rdK hv0_0), trivial⟩⟩, ⟨_, rfl, OM.box _ _ ⟨vS, trivial⟩⟩, ⟨_, rfl, OM.box _ _ ⟨vS, vS, vS, vS, vS, trivial⟩⟩, ⟨_, rfl, OM.box _ _ ⟨vS, vS, vS, vS, vS, trivial⟩⟩, trivial⟩
              ·rw [if_pos f36] at h
               obtain ⟨x16, f37, h⟩ := bindE h
               try simp -implicitDefEqProofs only [go_sem, seval, f2, f4, f6, f8, hi1, f17, hi2, f35, f36, hq, cmpr, List.getD_cons_zero, List.getD_cons_succ, List.contains_cons, List.contains_nil, Nat.reduceBEq, Bool.false_or, Bool.or_false, Bool.true_or, Bool.or_true, beq_self_eq_true]
               refine callV_eq (portolanlaw13_through_ok γ _ (by simp -implicitDefEqProofs only [go_sem, seval, f2, f4, f6, f8, hi1, f17, hi2, f35, f36, hq]; try rfl) (by simp -implicitDefEqProofs only [go_sem, seval, f2, f4, f6, f8, hi1, f17, hi2, f35, f36, hq]; try rfl) (by simp -implicitDefEqProofs only [go_sem, seval, f2, f4, f6, f8, hi1, f17, hi2, f35, f36, hq]; try rfl) f37) rfl rfl ?_
               try simp -implicitDefEqProofs only [go_sem, seval, f2, f4, f6, f8, hi1, f17, hi2, f35, f36, hq, cmpr, List.getD_cons_zero, List.getD_cons_succ, List.contains_cons, List.contains_nil, Nat.reduceBEq, Bool.false_or, Bool.or_false, Bool.true_or, Bool.or_true, beq_self_eq_true]
               cases f38 : (x16 != x12.M)
               ·rw [if_neg (nF f38)] at h
                refine X_cond (lx_ok γ) ?_
                simp -implicitDefEqProofs only [go_sem, seval, f2, f4, f6, f8, hi1, f17, hi2, f35, f36, f38, hq]
                refine X_skip ?_
                try simp -implicitDefEqProofs only [go_sem]
                refine X_reg (lx_ok γ) ?_
                obtain rfl := sI h
                simp -implicitDefEqProofs only [go_sem, seval, f2, f4, f6, f8, hi1, f17, hi2, f35, f36, f38, hq]
                refine kR_in rfl ?_ ⟨rfl, rfl⟩
                exact To.mv [(0, 0), (1, 0), (2, 0), (3, 0)] (BaseR.refl hob) (by simp) (by decide) (by simp only [go_sem]; exact ⟨VM.refA (j := 0) (t := 0) rfl, VM.refA (j := 1) (t := 1) rfl, vS, VM.refA (j := 2) (t := 2) rfl, VM.refA (j := 3) (t := 3) rfl, VM.eqv (by rw [hw2]) (by simp)⟩) ⟨⟨_, rfl, OM.box _ _ ⟨VM.self (by simpa using Bd.of_rdK hv0_0), trivial⟩⟩, ⟨_, rfl, OM.box _ _ ⟨vS, trivial⟩⟩, ⟨_, rfl, OM.box _ _ ⟨vS, vS, vS, vS, vS, trivial⟩⟩, ⟨_, rfl, OM.box _ _ ⟨vS, vS, vS, vS, vS, trivial⟩⟩, trivial⟩
               ·rw [if_pos f38] at h
                refine X_cond (lx_ok γ) ?_
                simp -implicitDefEqProofs only [go_sem, seval, f2, f4, f6, f8, hi1, f17, hi2, f35, f36, f38, hq]
                refine X_sr (lx_ok γ) ?_
                simp -implicitDefEqProofs only [go_sem, seval, f2, f4, f6, f8, hi1, f17, hi2, f35, f36, f38, hq]
                obtain rfl := sI h
                have h := hr2 _ (ho2 (fun _ hs => nomatch hs))
                obtain rfl := sI h
                have h := hr1 _ (ho1 (fun _ hs => nomatch hs))
                obtain rfl := sI h
                refine X_ret ?_
                simp -implicitDefEqProofs only [go_sem, seval, f2, f4, f6, f8, hi1, f17, hi2, f35, f36, f38, hq]
                exact Rt.mv0 (BaseR.refl hob) (by simp) (vS)
             ·rw [if_pos f35] at h
              cases f39 : (x12.Op != 23)
              ·rw [if_neg (nF f39)] at h
               cases f40 : (x12.Op == 22)
               ·rw [if_neg (nF f40)] at h
                try simp -implicitDefEqProofs only [go_sem, seval, f2, f4, f6, f8, hi1, f17, hi2, f35, f39, f40, hq, cmpr, List.getD_cons_zero, List.getD_cons_succ, List.contains_cons, List.contains_nil, Nat.reduceBEq, Bool.false_or, Bool.or_false, Bool.true_or, Bool.or_true, beq_self_eq_true]
                refine X_condF (lx_ok γ) rfl ?_
                refine X_skip ?_
                try simp -implicitDefEqProofs only [go_sem]
                refine X_reg (lx_ok γ) ?_
                obtain rfl := sI h
                simp -implicitDefEqProofs only [go_sem, seval, f2, f4, f6, f8, hi1, f17, hi2, f35, f39, f40, hq]
                refine kR_in rfl ?_ ⟨rfl, rfl⟩
                exact To.mv [(0, 0), (1, 0), (2, 0), (3, 0)] (BaseR.refl hob) (by simp) (by decide) (by simp only [go_sem]; exact ⟨VM.refA (j := 0) (t := 0) rfl, VM.refA (j := 1) (t := 1) rfl, vS, VM.refA (j := 2) (t := 2) rfl, VM.refA (j := 3) (t := 3) rfl, VM.eqv (by rw [hw2]) (by simp)⟩) ⟨⟨_, rfl, OM.box _ _ ⟨VM.self (by simpa using Bd.of_rdK hv0_0), trivial⟩⟩, ⟨_, rfl, OM.box _ _ ⟨vS, trivial⟩⟩, ⟨_, rfl, OM.box _ _ ⟨vS, vS, vS, vS, vS, trivial⟩⟩, ⟨_, rfl, OM.box _ _ ⟨vS, vS, vS, vS, vS, trivial⟩⟩, trivial⟩
               ·rw [if_pos f40] at h
                obtain ⟨x17, f41, h⟩ := bindE h
                try simp -implicitDefEqProofs only [go_sem, seval, f2, f4, f6, f8, hi1, f17, hi2, f35, f39, f40, hq, cmpr, List.getD_cons_zero, List.getD_cons_succ, List.contains_cons, List.contains_nil, Nat.reduceBEq, Bool.false_or, Bool.or_false, Bool.true_or, Bool.or_true, beq_self_eq_true]
                refine callV_eq (portolanlaw13_through_ok γ _ (by simp -implicitDefEqProofs only [go_sem, seval, f2, f4, f6, f8, hi1, f17, hi2, f35, f39, f40, hq]; try rfl) (by simp -implicitDefEqProofs only [go_sem, seval, f2, f4, f6, f8, hi1, f17, hi2, f35, f39, f40, hq]; try rfl) (by simp -implicitDefEqProofs only [go_sem, seval, f2, f4, f6, f8, hi1, f17, hi2, f35, f39, f40, hq]; try rfl) f41) rfl rfl ?_
                try simp -implicitDefEqProofs only [go_sem, seval, f2, f4, f6, f8, hi1, f17, hi2, f35, f39, f40, hq, cmpr, List.getD_cons_zero, List.getD_cons_succ, List.contains_cons, List.contains_nil, Nat.reduceBEq, Bool.false_or, Bool.or_false, Bool.true_or, Bool.or_true, beq_self_eq_true]
                cases f42 : (x17 != x12.M)
                ·rw [if_neg (nF f42)] at h
                 refine X_cond (lx_ok γ) ?_
                 simp -implicitDefEqProofs only [go_sem, seval, f2, f4, f6, f8, hi1, f17, hi2, f35, f39, f40, f42, hq]
                 refine X_skip ?_
                 try simp -implicitDefEqProofs only [go_sem]
                 refine X_reg (lx_ok γ) ?_
                 obtain rfl := sI h
                 simp -implicitDefEqProofs only [go_sem, seval, f2, f4, f6, f8, hi1, f17, hi2, f35, f39, f40, f42, hq]
                 refine kR_in rfl ?_ ⟨rfl, rfl⟩
                 exact To.mv [(0, 0), (1, 0), (2, 0), (3, 0)] (BaseR.refl hob) (by simp) (by decide) (by simp only [go_sem]; exact ⟨VM.refA (j := 0) (t := 0) rfl, VM.refA (j := 1) (t := 1) rfl, vS, VM.refA (j := 2) (t := 2) rfl, VM.refA (j := 3) (t := 3) rfl, VM.eqv (by rw [hw2]) (by simp)⟩) ⟨⟨_, rfl, OM.box _ _ ⟨VM.self (by simpa using Bd.of_rdK hv0_0), trivial⟩⟩, ⟨_, rfl, OM.box _ _ ⟨vS, trivial⟩⟩, ⟨_, rfl, OM.box _ _ ⟨vS, vS, vS, vS, vS, trivial⟩⟩, ⟨_, rfl, OM.box _ _ ⟨vS, vS, vS, vS, vS, trivial⟩⟩, trivial⟩
                ·rw [if_pos f42] at h
                 refine X_cond (lx_ok γ) ?_
                 simp -implicitDefEqProofs only [go_sem, seval, f2, f4, f6, f8, hi1, f17, hi2, f35, f39, f40, f42, hq]
                 refine X_sr (lx_ok γ) ?_
                 simp -implicitDefEqProofs only [go_sem, seval, f2, f4, f6, f8, hi1, f17, hi2, f35, f39, f40, f42, hq]
                 obtain rfl := sI h
                 have h := hr2 _ (ho2 (fun _ hs => nomatch hs))
                 obtain rfl := sI h
                 have h := hr1 _ (ho1 (fun _ hs => nomatch hs))
                 obtain rfl := sI h
                 refine X_ret ?_
                 simp -implicitDefEqProofs only [go_sem, seval, f2, f4, f6, f8, hi1, f17, hi2, f35, f39, f40, f42, hq]
                 exact Rt.mv0 (BaseR.refl hob) (by simp) (vS)
              ·rw [if_pos f39] at h
               try simp -implicitDefEqProofs only [go_sem, seval, f2, f4, f6, f8, hi1, f17, hi2, f35, f39, hq, cmpr, List.getD_cons_zero, List.getD_cons_succ, List.contains_cons, List.contains_nil, Nat.reduceBEq, Bool.false_or, Bool.or_false, Bool.true_or, Bool.or_true, beq_self_eq_true]
               refine X_condT (lx_ok γ) rfl ?_
               refine X_sr (lx_ok γ) ?_
               simp -implicitDefEqProofs only [go_sem, seval, f2, f4, f6, f8, hi1, f17, hi2, f35, f39, hq]
               obtain rfl := sI h
               have h := hr2 _ (ho2 (fun _ hs => nomatch hs))
               obtain rfl := sI h
               have h := hr1 _ (ho1 (fun _ hs => nomatch hs))
               obtain rfl := sI h
               refine X_ret ?_
               simp -implicitDefEqProofs only [go_sem, seval, f2, f4, f6, f8, hi1, f17, hi2, f35, f39, hq]
               exact Rt.mv0 (BaseR.refl hob) (by simp) (vS)
           ·rintro i2 _ hi2 hn2 as1 ob1 ⟨rfl, rfl⟩
            refine X_seq ?_
            refine X_sr (lx_ok γ) ?_
            simp -implicitDefEqProofs only [go_sem, seval, f2, f4, f6, f8, hi1, f17, hi2, hq]
            refine X_cond (lx_ok γ) ?_
            simp -implicitDefEqProofs only [go_sem, seval, f2, f4, f6, f8, hi1, f17, hi2, hq]
            have h := hk2 _ (.inl hn2)
            refine X_exit ?_
            try simp -implicitDefEqProofs only [go_sem, ↓reduceIte, Nat.reduceEqDiff, reduceCtorEq]
            refine kJ_in ?_ ⟨h, rfl, rfl⟩
            exact To.mv [(0, 0), (1, 0)] (BaseR.refl hob) (by simp) (by decide) (by simp only [go_sem]; exact ⟨VM.refA (j := 0) (t := 0) rfl, VM.refA (j := 1) (t := 1) rfl, vS⟩) ⟨⟨_, rfl, OM.box _ _ ⟨VM.self (by simpa using Bd.of_rdK hv0_0), trivial⟩⟩, ⟨_, rfl, OM.box _ _ ⟨vS, trivial⟩⟩, trivial⟩
         ·rw [if_pos f17] at h
          refine X_cond (lx_ok γ) ?_
          simp -implicitDefEqProofs only [go_sem, seval, f2, f4, f6, f8, hi1, f17, hq]
          refine X_sr (lx_ok γ) ?_
          simp -implicitDefEqProofs only [go_sem, seval, f2, f4, f6, f8, hi1, f17, hq]
          obtain rfl := sI h
          have h := hr1 _ (ho1 (fun _ hs => nomatch hs))
          obtain rfl := sI h
          refine X_ret ?_
          simp -implicitDefEqProofs only [go_sem, seval, f2, f4, f6, f8, hi1, f17, hq]
          exact Rt.mv0 (BaseR.refl hob) (by simp) (vS)
        ·refine X_reg (lx_ok γ) ?_
         obtain ⟨x18, f43, h⟩ := bindE h
         simp -implicitDefEqProofs only [go_sem, seval, f2, f4, f6, f8, hi1, hq]
         refine callV_eq (edge_Critical_ok γ _  f43) rfl rfl ?_
         cases f44 : ((List.length x18 : Int) != 0)
         ·rw [if_neg (nF f44)] at h
          simp -implicitDefEqProofs only [go_sem, seval, f2, f4, f6, f8, hi1, f44, hq]
          refine kJ_in ?_ ⟨(decide ((List.length x7.Blocks : Int) < (List.length x6.Blocks : Int))), h, rfl, rfl⟩
          exact To.mv [(0, 0), (1, 0), (3, 0), (2, 0)] (BaseR.refl hob) (by simp) (by decide) (by simp only [go_sem]; exact ⟨VM.refA (j := 0) (t := 0) rfl, VM.refA (j := 1) (t := 1) rfl, vS, VM.refA (j := 3) (t := 2) rfl, VM.refA (j := 2) (t := 3) rfl, vS⟩) ⟨⟨_, rfl, OM.box _ _ ⟨VM.self (by simpa using Bd.of_rdK hv0_0), trivial⟩⟩, ⟨_, rfl, OM.box _ _ ⟨vS, trivial⟩⟩, ⟨_, rfl, OM.box _ _ ⟨vS, vS, vS, vS, vS, trivial⟩⟩, ⟨_, rfl, OM.box _ _ ⟨vS, vS, vS, vS, vS, trivial⟩⟩, trivial⟩
         ·rw [if_pos f44] at h
          simp -implicitDefEqProofs only [go_sem, seval, f2, f4, f6, f8, hi1, f44, hq]
          refine kJ_in ?_ ⟨true, h, rfl, rfl⟩
          exact To.mv [(0, 0), (1, 0), (3, 0), (2, 0)] (BaseR.refl hob) (by simp) (by decide) (by simp only [go_sem]; exact ⟨VM.refA (j := 0) (t := 0) rfl, VM.refA (j := 1) (t := 1) rfl, vS, VM.refA (j := 3) (t := 2) rfl, VM.refA (j := 2) (t := 3) rfl, vS⟩) ⟨⟨_, rfl, OM.box _ _ ⟨VM.self (by simpa using Bd.of_rdK hv0_0), trivial⟩⟩, ⟨_, rfl, OM.box _ _ ⟨vS, trivial⟩⟩, ⟨_, rfl, OM.box _ _ ⟨vS, vS, vS, vS, vS, trivial⟩⟩, ⟨_, rfl, OM.box _ _ ⟨vS, vS, vS, vS, vS, trivial⟩⟩, trivial⟩
      ·rintro i1 _ hi1 hn1 as1 ob1 ⟨rfl, rfl⟩
       refine X_seq ?_
       refine X_sr (lx_ok γ) ?_
       simp -implicitDefEqProofs only [go_sem, seval, f2, f4, f6, f8, hi1, hq]
       refine X_cond (lx_ok γ) ?_
       simp -implicitDefEqProofs only [go_sem, seval, f2, f4, f6, f8, hi1, hq]
       have h := hk1 _ (.inl hn1)
       refine X_exit ?_
       try simp -implicitDefEqProofs only [go_sem, ↓reduceIte, Nat.reduceEqDiff, reduceCtorEq]
       refine kJ_in ?_ ⟨h, rfl, rfl⟩
       exact To.mv0 (BaseR.refl hob) (by simp) trivial
    ·rw [if_pos f8] at h
     refine X_cond (lx_ok γ) ?_
     simp -implicitDefEqProofs only [go_sem, seval, f2, f4, f6, f8, hq]
     refine X_sr (lx_ok γ) ?_
     simp -implicitDefEqProofs only [go_sem, seval, f2, f4, f6, f8, hq]
     obtain rfl := sI h
     refine X_ret ?_
     simp -implicitDefEqProofs only [go_sem, seval, f2, f4, f6, f8, hq]
     exact Rt.mv0 (BaseR.refl hob) (by simp) (vS)
   ·rw [if_pos f6] at h
    refine X_cond (lx_ok γ) ?_
    simp -implicitDefEqProofs only [go_sem, seval, f2, f4, f6, hq]
    refine X_sr (lx_ok γ) ?_
    cases f45 : (x3.2 == 9)
    ·rw [if_neg (nF f45)] at h
     simp -implicitDefEqProofs only [go_sem, seval, f2, f4, f6, f45, hq]
     obtain rfl := sI h
     refine X_ret ?_
     simp -implicitDefEqProofs only [go_sem, seval, f2, f4, f6, f45, hq]
     exact Rt.mv0 (BaseR.refl hob) (by simp) (vS)
    ·rw [if_pos f45] at h
     simp -implicitDefEqProofs only [go_sem, seval, f2, f4, f6, f45, hq]
     obtain rfl := sI h
     refine X_ret ?_
     simp -implicitDefEqProofs only [go_sem, seval, f2, f4, f6, f45, hq]
     exact Rt.mv0 (BaseR.refl hob) (by simp) (vS)
  ·rw [if_pos f4] at h
   refine X_cond (lx_ok γ) ?_
   simp -implicitDefEqProofs only [go_sem, seval, f2, f4, hq]
   refine X_sr (lx_ok γ) ?_
   simp -implicitDefEqProofs only [go_sem, seval, f2, f4, hq]
   obtain rfl := sI h
   refine X_ret ?_
   simp -implicitDefEqProofs only [go_sem, seval, f2, f4, hq]
   exact Rt.mv0 (BaseR.refl hob) (by simp) (vS)
end Go.Pf
end
