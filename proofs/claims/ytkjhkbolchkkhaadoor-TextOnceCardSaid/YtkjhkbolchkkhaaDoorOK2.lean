/- Each function computes what its plain one says, part 2 -/
import Derived.Test.YtkjhkbolchkkhaaDoorOK1
set_option linter.all false
section
set_option maxRecDepth 100000
namespace Go.Pf
open Go Go.Ab Go.Pp Go.Proofs Go.Proofs.S19
attribute [local go_sem] Lxτ Lxγ gam0 Int.toNat_natCast tau3 tau46 tau47 eI eB eS e_Loc e_Mins e_Text e_text_room e_text_reader e_portolanref19_reader
set_option maxHeartbeats 1000000 in
theorem portolanref16_Same_ok (γ : GT) (ob : OT) {a0 : List Loc} {v0 : V} {a1 : List Loc} {v1 : V} (hv0 : rdK (getO ob) 2 v0 = some (List.map e_Loc a0)) (hv1 : rdK (getO ob) 2 v1 = some (List.map e_Loc a1)) {r : Bool} (h : portolanref16_Same a0 a1 = some r) :
  Valid (Lx γ) 71 [v0, v1] ob (vbool r) ob := by
 refine valid_X (lx_ok γ) (fn := Tryd.f71) (rs := [.tmp 4]) Tryd.func71 (by kernel_rfl) rfl rfl Tryd.ntmps71 rfl (by simp) fun hb hob => ?_
 have hq := And.intro (rd4 hv0) (rd4 hv1)
 rw [portolanref16_Same] at h
 refine X_seq ?_
 refine X_reg (lx_ok γ) ?_
 simp -implicitDefEqProofs only [go_sem, seval, hq]
 refine X_seq ?_
 refine X_seq ?_
 refine X_reg (lx_ok γ) ?_
 simp -implicitDefEqProofs only [go_sem, seval, hq]
 cases f1 : ((List.length a0 : Int) != (List.length a1 : Int))
 ·rw [if_neg (ne_true_of_eq_false f1)] at h
  refine X_cond (lx_ok γ) ?_
  simp -implicitDefEqProofs only [go_sem, seval, f1, hq]
  refine X_skip ?_
  try simp -implicitDefEqProofs only [go_sem]
  refine X_seq ?_
  refine X_seq ?_
  refine X_reg (lx_ok γ) ?_
  simp -implicitDefEqProofs only [go_sem, seval, f1, hq]
  refine X_jq (J := fun as1 ob1 => portolanref16_Same.k1 = some r ∧ [] = as1 ∧ ob = ob1) ?_ ?_
  ·rintro as1 ob1 ⟨h, rfl, rfl⟩
   rw [portolanref16_Same.k1] at h
   simp -implicitDefEqProofs only [go_sem, seval, f1, hq]
   refine X_seq ?_
   refine X_reg (lx_ok γ) ?_
   simp -implicitDefEqProofs only [go_sem, seval, f1, hq]
   obtain rfl := Option.some.inj h
   refine X_ret ?_
   simp -implicitDefEqProofs only [go_sem, seval, f1, hq]
   exact Rt.mv1 (BaseR.refl hob) (by simp) (VM.self (by simp))
  ·refine X_block ?_
   obtain ⟨lr1, hl1, hk1, hr1⟩ := aft2 h
   refine X_forN hl1 (fun (i1 : Nat) (s : Unit) as1 ob1 => [(0, v0), (1, v1), (5, vint .i64 (i1 : Int))] = as1 ∧ ob = ob1) ⟨_, _, ?_, rfl, rfl⟩ ?_ ?_
   ·exact To.mv1 (BaseR.refl hob) (by simp) (by simp only [go_sem]; exact ⟨VM.self (by simpa using Bd.of_rdK hv0), VM.self (by simpa using Bd.of_rdK hv1), VM.eqv (by simp) (by simp)⟩)
   ·rintro i1 _ o1 hi1 hw1 h ho1 as1 ob1 ⟨rfl, rfl⟩
    rw [portolanref16_Same.b1] at h
    refine X_seq ?_
    refine X_seq ?_
    refine X_reg (lx_ok γ) ?_
    simp -implicitDefEqProofs only [go_sem, seval, f1, hi1, hq]
    refine X_cond (lx_ok γ) ?_
    simp -implicitDefEqProofs only [go_sem, seval, f1, hi1, hq]
    refine X_skip ?_
    try simp -implicitDefEqProofs only [go_sem]
    refine X_seq ?_
    refine X_block ?_
    refine X_seq ?_
    refine X_drawn (lx_ok γ) [[], [], [0, 1], [0, 1, 2], [], [], [4, 5], [4, 5, 6], [0, 1, 2, 3, 4, 5, 6, 7]] (fun i => match i with | _ => false) (by kernel_rfl) ?_
    obtain ⟨x2, f2, h⟩ := bindE h
    obtain ⟨f3, f4⟩ := ixL_nat f2
    have f5 : (0 : Int) ≤ (i1 : Int) := Int.natCast_nonneg _
    obtain ⟨x3, f6, h⟩ := bindE h
    obtain ⟨f7, f8⟩ := ixL_nat f6
    have f9 : (0 : Int) ≤ (i1 : Int) := Int.natCast_nonneg _
    try simp -implicitDefEqProofs only [go_sem, seval, f1, hi1, hq, f3, f4, f5, f7, f8, f9, cmpr, List.getD_cons_zero, List.getD_cons_succ, List.contains_cons, List.contains_nil, Nat.reduceBEq, Bool.false_or, Bool.or_false, Bool.true_or, Bool.or_true, beq_self_eq_true]
    cases f10 : decide (x2.Kind = x3.Kind) && decide (x2.N = x3.N)
    ·rw [if_neg (ne_true_of_eq_false f10)] at h
     refine X_cond (lx_ok γ) ?_
     simp -implicitDefEqProofs only [go_sem, seval, f1, hi1, f10, hq, f3, f4, f5, f7, f8, f9]
     refine X_seq ?_
     refine X_reg (lx_ok γ) ?_
     simp -implicitDefEqProofs only [go_sem, seval, f1, hi1, f10, hq]
     obtain rfl := Option.some.inj h
     have h := hr1 _ (ho1 (fun _ hs => nomatch hs))
     obtain rfl := Option.some.inj h
     refine X_ret ?_
     simp -implicitDefEqProofs only [go_sem, seval, f1, hi1, f10, hq]
     exact Rt.mv1 (BaseR.refl hob) (by simp) (VM.self (by simp))
    ·rw [if_pos f10] at h
     refine X_cond (lx_ok γ) ?_
     simp -implicitDefEqProofs only [go_sem, seval, f1, hi1, f10, hq, f3, f4, f5, f7, f8, f9]
     refine X_skip ?_
     try simp -implicitDefEqProofs only [go_sem]
     refine X_reg (lx_ok γ) ?_
     obtain rfl := Option.some.inj h
     simp -implicitDefEqProofs only [go_sem, seval, f1, hi1, f10, hq]
     refine kR_in rfl ?_ ⟨rfl, rfl⟩
     exact To.mv1 (BaseR.refl hob) (by simp) (by simp only [go_sem]; exact ⟨VM.self (by simpa using Bd.of_rdK hv0), VM.self (by simpa using Bd.of_rdK hv1), VM.eqv (by rw [hw1]) (by simp)⟩)
   ·rintro i1 _ hi1 hn1 as1 ob1 ⟨rfl, rfl⟩
    refine X_seq ?_
    refine X_seq ?_
    refine X_reg (lx_ok γ) ?_
    simp -implicitDefEqProofs only [go_sem, seval, f1, hi1, hq]
    refine X_cond (lx_ok γ) ?_
    simp -implicitDefEqProofs only [go_sem, seval, f1, hi1, hq]
    have h := hk1 _ (.inl hn1)
    refine X_exit ?_
    try simp -implicitDefEqProofs only [go_sem, ↓reduceIte, Nat.reduceEqDiff, reduceCtorEq]
    refine kJ_in ?_ ⟨h, rfl, rfl⟩
    exact To.mv1 (BaseR.refl hob) (by simp) trivial
 ·rw [if_pos f1] at h
  refine X_cond (lx_ok γ) ?_
  simp -implicitDefEqProofs only [go_sem, seval, f1, hq]
  refine X_seq ?_
  refine X_reg (lx_ok γ) ?_
  simp -implicitDefEqProofs only [go_sem, seval, f1, hq]
  obtain rfl := Option.some.inj h
  refine X_ret ?_
  simp -implicitDefEqProofs only [go_sem, seval, f1, hq]
  exact Rt.mv1 (BaseR.refl hob) (by simp) (VM.self (by simp))
end Go.Pf
end
section
set_option maxRecDepth 100000
namespace Go.Pf
open Go Go.Ab Go.Pp Go.Proofs Go.Proofs.S19
attribute [local go_sem] Lxτ Lxγ gam0 Int.toNat_natCast tau3 tau46 tau47 tau49 eI eB eS e_Loc e_Mins e_Text e_text_room e_text_reader e_portolanref19_reader
set_option maxHeartbeats 1000000 in
theorem portolanref19_SameIns_ok (γ : GT) (ob : OT) {a0 : Mins} {v0_11 : V} {a1 : Mins} {v1_11 : V} (hv0_11 : rdK (getO ob) 2 v0_11 = some (List.map e_Loc a0.Args)) (hv1_11 : rdK (getO ob) 2 v1_11 = some (List.map e_Loc a1.Args)) {r : Bool} (h : portolanref19_SameIns a0 a1 = some r) :
  Valid (Lx γ) 45 [V.agg [vint .i64 a0.Op, vint .i64 a0.D.Kind, vint .i64 a0.D.N, vint .i64 a0.A.Kind, vint .i64 a0.A.N, vint .i64 a0.B.Kind, vint .i64 a0.B.N, vint .i64 a0.C.Kind, vint .i64 a0.C.N, vint .i64 a0.N, vint .i64 a0.M, v0_11], V.agg [vint .i64 a1.Op, vint .i64 a1.D.Kind, vint .i64 a1.D.N, vint .i64 a1.A.Kind, vint .i64 a1.A.N, vint .i64 a1.B.Kind, vint .i64 a1.B.N, vint .i64 a1.C.Kind, vint .i64 a1.C.N, vint .i64 a1.N, vint .i64 a1.M, v1_11]] ob (vbool r) ob := by
 refine valid_X (lx_ok γ) (fn := Tryd.f45) (rs := [.tmp 4]) Tryd.func45 (by kernel_rfl) rfl rfl Tryd.ntmps45 rfl (by simp) fun hb hob => ?_
 have hq := And.intro (rd4 hv0_11) (rd4 hv1_11)
 rw [portolanref19_SameIns] at h
 refine X_seq ?_
 refine X_reg (lx_ok γ) ?_
 simp -implicitDefEqProofs only [go_sem, seval, hq]
 refine X_seq ?_
 refine X_reg (lx_ok γ) ?_
 cases f1 : (a0.Op == a1.Op)
 ·rw [if_neg (ne_true_of_eq_false f1)] at h
  simp -implicitDefEqProofs only [go_sem, seval, f1, hq]
  obtain rfl := Option.some.inj h
  refine X_ret ?_
  simp -implicitDefEqProofs only [go_sem, seval, f1, hq]
  exact Rt.mv0 (BaseR.refl hob) (by simp) (VM.self (by simp))
 ·rw [if_pos f1] at h
  cases f2 : decide (a0.D.Kind = a1.D.Kind) && decide (a0.D.N = a1.D.N)
  ·rw [if_neg (ne_true_of_eq_false f2)] at h
   simp -implicitDefEqProofs only [go_sem, seval, f1, f2, hq]
   obtain rfl := Option.some.inj h
   refine X_ret ?_
   simp -implicitDefEqProofs only [go_sem, seval, f1, f2, hq]
   exact Rt.mv0 (BaseR.refl hob) (by simp) (VM.self (by simp))
  ·rw [if_pos f2] at h
   cases f3 : decide (a0.A.Kind = a1.A.Kind) && decide (a0.A.N = a1.A.N)
   ·rw [if_neg (ne_true_of_eq_false f3)] at h
    simp -implicitDefEqProofs only [go_sem, seval, f1, f2, f3, hq]
    obtain rfl := Option.some.inj h
    refine X_ret ?_
    simp -implicitDefEqProofs only [go_sem, seval, f1, f2, f3, hq]
    exact Rt.mv0 (BaseR.refl hob) (by simp) (VM.self (by simp))
   ·rw [if_pos f3] at h
    cases f4 : decide (a0.B.Kind = a1.B.Kind) && decide (a0.B.N = a1.B.N)
    ·rw [if_neg (ne_true_of_eq_false f4)] at h
     simp -implicitDefEqProofs only [go_sem, seval, f1, f2, f3, f4, hq]
     obtain rfl := Option.some.inj h
     refine X_ret ?_
     simp -implicitDefEqProofs only [go_sem, seval, f1, f2, f3, f4, hq]
     exact Rt.mv0 (BaseR.refl hob) (by simp) (VM.self (by simp))
    ·rw [if_pos f4] at h
     cases f5 : decide (a0.C.Kind = a1.C.Kind) && decide (a0.C.N = a1.C.N)
     ·rw [if_neg (ne_true_of_eq_false f5)] at h
      simp -implicitDefEqProofs only [go_sem, seval, f1, f2, f3, f4, f5, hq]
      obtain rfl := Option.some.inj h
      refine X_ret ?_
      simp -implicitDefEqProofs only [go_sem, seval, f1, f2, f3, f4, f5, hq]
      exact Rt.mv0 (BaseR.refl hob) (by simp) (VM.self (by simp))
     ·rw [if_pos f5] at h
      cases f6 : (a0.N == a1.N)
      ·rw [if_neg (ne_true_of_eq_false f6)] at h
       simp -implicitDefEqProofs only [go_sem, seval, f1, f2, f3, f4, f5, f6, hq]
       obtain rfl := Option.some.inj h
       refine X_ret ?_
       simp -implicitDefEqProofs only [go_sem, seval, f1, f2, f3, f4, f5, f6, hq]
       exact Rt.mv0 (BaseR.refl hob) (by simp) (VM.self (by simp))
      ·rw [if_pos f6] at h
       cases f7 : (a0.M == a1.M)
       ·rw [if_neg (ne_true_of_eq_false f7)] at h
        simp -implicitDefEqProofs only [go_sem, seval, f1, f2, f3, f4, f5, f6, f7, hq]
        obtain rfl := Option.some.inj h
        refine X_ret ?_
        simp -implicitDefEqProofs only [go_sem, seval, f1, f2, f3, f4, f5, f6, f7, hq]
        exact Rt.mv0 (BaseR.refl hob) (by simp) (VM.self (by simp))
       ·rw [if_pos f7] at h
        obtain ⟨x1, f8, h⟩ := bindE h
        simp -implicitDefEqProofs only [go_sem, seval, f1, f2, f3, f4, f5, f6, f7, hq]
        refine callV_eq (portolanref16_Same_ok γ _ (by first | exact rdK_app hv0_11 | exact hv0_11) (by first | exact rdK_app hv1_11 | exact hv1_11) f8) rfl rfl ?_
        simp -implicitDefEqProofs only [go_sem, seval, f1, f2, f3, f4, f5, f6, f7, hq]
        obtain rfl := Option.some.inj h
        refine X_ret ?_
        simp -implicitDefEqProofs only [go_sem, seval, f1, f2, f3, f4, f5, f6, f7, hq]
        exact Rt.mv0 (BaseR.refl hob) (by simp) (VM.self (by simp))
end Go.Pf
end
section
set_option maxRecDepth 100000
namespace Go.Pf
open Go Go.Ab Go.Pp Go.Proofs Go.Proofs.S19
attribute [local go_sem] Lxτ Lxγ gam0 Int.toNat_natCast tau3 tau4 tau22 tau23 tau25 tau46 tau47 tau49 eI eB eS e_Loc e_Mins e_Text e_text_room e_text_reader e_portolanref19_reader
set_option maxHeartbeats 1000000 in
theorem portolanref19_Same_ok (γ : GT) (ob : OT) {a0 : Text} {v0_0 : V} {v0_1 : V} {v0_2 : V} {a1 : Text} {v1_0 : V} {v1_1 : V} {v1_2 : V} (hv0_0 : rdK (getO ob) 12 v0_0 = some (List.map e_Mins a0.Code)) (hv0_1 : rdK (getO ob) 1 v0_1 = some (List.map (eI .i64) a0.Starts)) (hv0_2 : rdK (getO ob) 1 v0_2 = some (List.map (eI .i64) a0.Slots)) (hv1_0 : rdK (getO ob) 12 v1_0 = some (List.map e_Mins a1.Code)) (hv1_1 : rdK (getO ob) 1 v1_1 = some (List.map (eI .i64) a1.Starts)) (hv1_2 : rdK (getO ob) 1 v1_2 = some (List.map (eI .i64) a1.Slots)) {r : Bool} (h : portolanref19_Same a0 a1 = some r) :
  Valid (Lx γ) 21 [V.agg [v0_0, v0_1, v0_2], V.agg [v1_0, v1_1, v1_2]] ob (vbool r) ob := by
 refine valid_X (lx_ok γ) (fn := Tryd.f21) (rs := [.tmp 4]) Tryd.func21 (by kernel_rfl) rfl rfl Tryd.ntmps21 rfl (by simp) fun hb hob => ?_
 have hq := And.intro (rd4 hv0_0) (And.intro (rd4 hv0_1) (And.intro (rd4 hv0_2) (And.intro (rd4 hv1_0) (And.intro (rd4 hv1_1) (rd4 hv1_2)))))
 rw [portolanref19_Same] at h
 refine X_seq ?_
 refine X_reg (lx_ok γ) ?_
 simp -implicitDefEqProofs only [go_sem, seval, hq]
 refine X_seq ?_
 refine X_seq ?_
 refine X_jq (J := fun as1 ob1 => ∃ (x2 : Bool), portolanref19_Same.j1 a0 a1 x2 = some r ∧ [(2, V.ref ob.length 0), (3, V.ref (ob.length + 1) 0), (28, vbool x2)] = as1 ∧ ob ++ [some (O.box [v0_0, v0_1, v0_2]), some (O.box [v1_0, v1_1, v1_2])] = ob1) ?_ ?_
 ·rintro as1 ob1 ⟨x2, h, rfl, rfl⟩
  rw [portolanref19_Same.j1] at h
  simp -implicitDefEqProofs only [go_sem, seval, hq]
  cases f1 : x2
  ·rw [if_neg (ne_true_of_eq_false f1)] at h
   refine X_cond (lx_ok γ) ?_
   simp -implicitDefEqProofs only [go_sem, seval, f1, hq]
   refine X_skip ?_
   try simp -implicitDefEqProofs only [go_sem]
   refine X_seq ?_
   refine X_seq ?_
   refine X_reg (lx_ok γ) ?_
   simp -implicitDefEqProofs only [go_sem, seval, f1, hq]
   refine X_jq (J := fun as1 ob1 => portolanref19_Same.k1 = some r ∧ [] = as1 ∧ ob = ob1) ?_ ?_
   ·rintro as1 ob1 ⟨h, rfl, rfl⟩
    rw [portolanref19_Same.k1] at h
    simp -implicitDefEqProofs only [go_sem, seval, f1, hq]
    refine X_seq ?_
    refine X_reg (lx_ok γ) ?_
    simp -implicitDefEqProofs only [go_sem, seval, f1, hq]
    obtain rfl := Option.some.inj h
    refine X_ret ?_
    simp -implicitDefEqProofs only [go_sem, seval, f1, hq]
    exact Rt.mv1 (BaseR.refl hob) (by simp) (VM.self (by simp))
   ·refine X_block ?_
    obtain ⟨lr1, hl1, hk1, hr1⟩ := aft2 h
    refine X_forN hl1 (fun (i1 : Nat) (s : Unit) as1 ob1 => [(2, V.ref ob.length 0), (3, V.ref (ob.length + 1) 0), (5, vint .i64 (i1 : Int))] = as1 ∧ ob ++ [some (O.box [v0_0, v0_1, v0_2]), some (O.box [v1_0, v1_1, v1_2])] = ob1) ⟨_, _, ?_, rfl, rfl⟩ ?_ ?_
    ·exact To.mv [(0, 0), (1, 0)] (BaseR.refl hob) (by simp) (by decide) (by simp only [go_sem]; exact ⟨VM.refA (j := 0) (t := 0) rfl, VM.refA (j := 1) (t := 1) rfl, VM.eqv (by simp) (by simp)⟩) ⟨⟨_, rfl, OM.box _ _ ⟨VM.self (by simpa using Bd.of_rdK hv0_0), VM.self (by simpa using Bd.of_rdK hv0_1), VM.self (by simpa using Bd.of_rdK hv0_2), trivial⟩⟩, ⟨_, rfl, OM.box _ _ ⟨VM.self (by simpa using Bd.of_rdK hv1_0), VM.self (by simpa using Bd.of_rdK hv1_1), VM.self (by simpa using Bd.of_rdK hv1_2), trivial⟩⟩, trivial⟩
    ·rintro i1 _ o1 hi1 hw1 h ho1 as1 ob1 ⟨rfl, rfl⟩
     rw [portolanref19_Same.b1] at h
     refine X_seq ?_
     refine X_seq ?_
     refine X_reg (lx_ok γ) ?_
     simp -implicitDefEqProofs only [go_sem, seval, f1, hi1, hq]
     refine X_cond (lx_ok γ) ?_
     simp -implicitDefEqProofs only [go_sem, seval, f1, hi1, hq]
     refine X_skip ?_
     try simp -implicitDefEqProofs only [go_sem]
     refine X_seq ?_
     refine X_block ?_
     refine X_seq ?_
     refine X_drawn (lx_ok γ) [[], [0], [], [0, 1, 2], [0, 1, 2, 3], [], [5], [], [5, 6, 7], [5, 6, 7, 8], [0, 1, 2, 3, 4, 5, 6, 7, 8, 9], [0, 1, 2, 3, 4, 5, 6, 7, 8, 9, 10]] (fun i => match i with | _ => false) (by kernel_rfl) ?_
     obtain ⟨x4, f2, h⟩ := bindE h
     obtain ⟨f3, f4⟩ := ixL_nat f2
     have f5 : (0 : Int) ≤ (i1 : Int) := Int.natCast_nonneg _
     obtain ⟨x5, f6, h⟩ := bindE h
     obtain ⟨f7, f8⟩ := ixL_nat f6
     have f9 : (0 : Int) ≤ (i1 : Int) := Int.natCast_nonneg _
     obtain ⟨x6, f10, h⟩ := bindE h
     try simp -implicitDefEqProofs only [go_sem, seval, f1, hi1, hq, f3, f4, f5, f7, f8, f9, cmpr, List.getD_cons_zero, List.getD_cons_succ, List.contains_cons, List.contains_nil, Nat.reduceBEq, Bool.false_or, Bool.or_false, Bool.true_or, Bool.or_true, beq_self_eq_true]
     refine callV_eq (portolanref19_SameIns_ok γ _ (by simp -implicitDefEqProofs only [go_sem, seval, f1, hi1, hq, f3, f4, f5, f7, f8, f9]; try rfl) (by simp -implicitDefEqProofs only [go_sem, seval, f1, hi1, hq, f3, f4, f5, f7, f8, f9]; try rfl) f10) rfl rfl ?_
     try simp -implicitDefEqProofs only [go_sem, seval, f1, hi1, hq, f3, f4, f5, f7, f8, f9, cmpr, List.getD_cons_zero, List.getD_cons_succ, List.contains_cons, List.contains_nil, Nat.reduceBEq, Bool.false_or, Bool.or_false, Bool.true_or, Bool.or_true, beq_self_eq_true]
     cases f11 : x6
     ·rw [if_neg (ne_true_of_eq_false f11)] at h
      refine X_cond (lx_ok γ) ?_
      simp -implicitDefEqProofs only [go_sem, seval, f1, hi1, f11, hq, f3, f4, f5, f7, f8, f9]
      refine X_seq ?_
      refine X_reg (lx_ok γ) ?_
      simp -implicitDefEqProofs only [go_sem, seval, f1, hi1, f11, hq]
      obtain rfl := Option.some.inj h
      have h := hr1 _ (ho1 (fun _ hs => nomatch hs))
      obtain rfl := Option.some.inj h
      refine X_ret ?_
      simp -implicitDefEqProofs only [go_sem, seval, f1, hi1, f11, hq]
      exact Rt.mv0 (BaseR.refl hob) (by simp) (VM.self (by simp))
     ·rw [if_pos f11] at h
      refine X_cond (lx_ok γ) ?_
      simp -implicitDefEqProofs only [go_sem, seval, f1, hi1, f11, hq, f3, f4, f5, f7, f8, f9]
      refine X_skip ?_
      try simp -implicitDefEqProofs only [go_sem]
      refine X_reg (lx_ok γ) ?_
      obtain rfl := Option.some.inj h
      simp -implicitDefEqProofs only [go_sem, seval, f1, hi1, f11, hq]
      refine kR_in rfl ?_ ⟨rfl, rfl⟩
      exact To.mv [(0, 0), (1, 0)] (BaseR.refl hob) (by simp) (by decide) (by simp only [go_sem]; exact ⟨VM.refA (j := 0) (t := 0) rfl, VM.refA (j := 1) (t := 1) rfl, VM.eqv (by rw [hw1]) (by simp)⟩) ⟨⟨_, rfl, OM.box _ _ ⟨VM.self (by simpa using Bd.of_rdK hv0_0), VM.self (by simpa using Bd.of_rdK hv0_1), VM.self (by simpa using Bd.of_rdK hv0_2), trivial⟩⟩, ⟨_, rfl, OM.box _ _ ⟨VM.self (by simpa using Bd.of_rdK hv1_0), VM.self (by simpa using Bd.of_rdK hv1_1), VM.self (by simpa using Bd.of_rdK hv1_2), trivial⟩⟩, trivial⟩
    ·rintro i1 _ hi1 hn1 as1 ob1 ⟨rfl, rfl⟩
     refine X_seq ?_
     refine X_seq ?_
     refine X_reg (lx_ok γ) ?_
     simp -implicitDefEqProofs only [go_sem, seval, f1, hi1, hq]
     refine X_cond (lx_ok γ) ?_
     simp -implicitDefEqProofs only [go_sem, seval, f1, hi1, hq]
     have h := hk1 _ (.inl hn1)
     refine X_exit ?_
     try simp -implicitDefEqProofs only [go_sem, ↓reduceIte, Nat.reduceEqDiff, reduceCtorEq]
     refine kJ_in ?_ ⟨h, rfl, rfl⟩
     exact To.mv0 (BaseR.refl hob) (by simp) trivial
  ·rw [if_pos f1] at h
   refine X_cond (lx_ok γ) ?_
   simp -implicitDefEqProofs only [go_sem, seval, f1, hq]
   refine X_seq ?_
   refine X_reg (lx_ok γ) ?_
   simp -implicitDefEqProofs only [go_sem, seval, f1, hq]
   obtain rfl := Option.some.inj h
   refine X_ret ?_
   simp -implicitDefEqProofs only [go_sem, seval, f1, hq]
   exact Rt.mv0 (BaseR.refl hob) (by simp) (VM.self (by simp))
 ·refine X_reg (lx_ok γ) ?_
  cases f12 : ((List.length a0.Code : Int) != (List.length a1.Code : Int))
  ·rw [if_neg (ne_true_of_eq_false f12)] at h
   obtain ⟨x7, f13, h⟩ := bindE h
   simp -implicitDefEqProofs only [go_sem, seval, f12, hq]
   refine callV_eq (portolanref01_Ints_ok γ _ (by first | exact rdK_app hv0_1 | exact hv0_1) (by first | exact rdK_app hv1_1 | exact hv1_1) f13) rfl rfl ?_
   cases f14 : x7
   ·rw [if_neg (ne_true_of_eq_false f14)] at h
    simp -implicitDefEqProofs only [go_sem, seval, f12, f14, hq]
    refine kJ_in ?_ ⟨true, h, rfl, rfl⟩
    exact To.mv [(0, 0), (1, 0)] (BaseR.refl hob) (by simp) (by decide) (by simp only [go_sem]; exact ⟨VM.refA (j := 0) (t := 0) rfl, VM.refA (j := 1) (t := 1) rfl, VM.self (by simp)⟩) ⟨⟨_, rfl, OM.box _ _ ⟨VM.self (by simpa using Bd.of_rdK hv0_0), VM.self (by simpa using Bd.of_rdK hv0_1), VM.self (by simpa using Bd.of_rdK hv0_2), trivial⟩⟩, ⟨_, rfl, OM.box _ _ ⟨VM.self (by simpa using Bd.of_rdK hv1_0), VM.self (by simpa using Bd.of_rdK hv1_1), VM.self (by simpa using Bd.of_rdK hv1_2), trivial⟩⟩, trivial⟩
   ·rw [if_pos f14] at h
    obtain ⟨x8, f15, h⟩ := bindE h
    simp -implicitDefEqProofs only [go_sem, seval, f12, f14, hq]
    refine callV_eq (portolanref01_Ints_ok γ _ (by first | exact rdK_app hv0_2 | exact hv0_2) (by first | exact rdK_app hv1_2 | exact hv1_2) f15) rfl rfl ?_
    simp -implicitDefEqProofs only [go_sem, seval, f12, f14, hq]
    refine kJ_in ?_ ⟨(!x8), h, rfl, rfl⟩
    exact To.mv [(0, 0), (1, 0)] (BaseR.refl hob) (by simp) (by decide) (by simp only [go_sem]; exact ⟨VM.refA (j := 0) (t := 0) rfl, VM.refA (j := 1) (t := 1) rfl, VM.self (by simp)⟩) ⟨⟨_, rfl, OM.box _ _ ⟨VM.self (by simpa using Bd.of_rdK hv0_0), VM.self (by simpa using Bd.of_rdK hv0_1), VM.self (by simpa using Bd.of_rdK hv0_2), trivial⟩⟩, ⟨_, rfl, OM.box _ _ ⟨VM.self (by simpa using Bd.of_rdK hv1_0), VM.self (by simpa using Bd.of_rdK hv1_1), VM.self (by simpa using Bd.of_rdK hv1_2), trivial⟩⟩, trivial⟩
  ·rw [if_pos f12] at h
   simp -implicitDefEqProofs only [go_sem, seval, f12, hq]
   refine kJ_in ?_ ⟨true, h, rfl, rfl⟩
   exact To.mv [(0, 0), (1, 0)] (BaseR.refl hob) (by simp) (by decide) (by simp only [go_sem]; exact ⟨VM.refA (j := 0) (t := 0) rfl, VM.refA (j := 1) (t := 1) rfl, VM.self (by simp)⟩) ⟨⟨_, rfl, OM.box _ _ ⟨VM.self (by simpa using Bd.of_rdK hv0_0), VM.self (by simpa using Bd.of_rdK hv0_1), VM.self (by simpa using Bd.of_rdK hv0_2), trivial⟩⟩, ⟨_, rfl, OM.box _ _ ⟨VM.self (by simpa using Bd.of_rdK hv1_0), VM.self (by simpa using Bd.of_rdK hv1_1), VM.self (by simpa using Bd.of_rdK hv1_2), trivial⟩⟩, trivial⟩
end Go.Pf
end
section
set_option maxRecDepth 100000
namespace Go.Pf
open Go Go.Ab Go.Pp Go.Proofs Go.Proofs.S19
attribute [local go_sem] Lxτ Lxγ gam0 Int.toNat_natCast tau3 tau5 tau22 tau23 tau25 tau28 tau29 tau46 tau47 tau49 eI eB eS e_Loc e_Mins e_Text e_text_room e_text_reader e_portolanref19_reader
set_option maxHeartbeats 1000000 in
theorem portolanlaw19_alive_ok (γ : GT) (ob : OT)  {r : Bool} (h : portolanlaw19_alive = some r) :
  Valid (Lx γ) 8 [] ob (vbool r) ob := by
 refine valid_X (lx_ok γ) (fn := Tryd.f8) (rs := [.tmp 0]) Tryd.func8 (by kernel_rfl) rfl rfl Tryd.ntmps8 rfl (by simp) fun hb hob => ?_
 rw [portolanlaw19_alive] at h
 refine X_seq ?_
 refine X_reg (lx_ok γ) ?_
 simp -implicitDefEqProofs only [go_sem, seval]
 refine X_seq ?_
 refine X_reg (lx_ok γ) ?_
 simp -implicitDefEqProofs only [go_sem, seval]
 refine X.to (To.frz (as' := [(1, V.ref (ob.length + 3) 0)]) (l' := [none, some (O.row 1 0 (List.map (eI .i64) [0])), some (O.row 1 0 (List.map (eI .i64) [1])), some (O.box [V.tr (.sl 12 false (List.map e_Mins [Mins.mk 23 (Loc.mk 0 0) (Loc.mk 2 0) (Loc.mk 0 0) (Loc.mk 0 0) 0 0 []])), V.row (ob.length + 1) 0 0 1, V.row (ob.length + 2) 0 0 1])]) 0 rfl ⟨VZ.refl, trivial⟩ ⟨Or.inl rfl, Or.inr ⟨by omega, _, _, rfl, rfl, .same _⟩, Or.inr ⟨by omega, _, _, rfl, rfl, .same _⟩, Or.inr ⟨by omega, _, _, rfl, rfl, .box _ _ ⟨VZ.rowN (by first | rfl | simp) (by repeat' (first | exact trivial | exact TrLe.refl | exact TrLe.nil | refine ⟨?_, ?_⟩)), VZ.refl, VZ.refl, trivial⟩⟩, trivial⟩) ?_
 refine X.to (To.frz (as' := [(1, V.ref (ob.length + 3) 0)]) (l' := [none, none, some (O.row 1 0 (List.map (eI .i64) [1])), some (O.box [V.tr (.sl 12 false (List.map e_Mins [Mins.mk 23 (Loc.mk 0 0) (Loc.mk 2 0) (Loc.mk 0 0) (Loc.mk 0 0) 0 0 []])), V.tr (.sl 1 false (List.map (eI .i64) [0])), V.row (ob.length + 2) 0 0 1])]) 1 rfl ⟨VZ.refl, trivial⟩ ⟨Or.inl rfl, Or.inl rfl, Or.inr ⟨by omega, _, _, rfl, rfl, .same _⟩, Or.inr ⟨by omega, _, _, rfl, rfl, .box _ _ ⟨VZ.refl, VZ.rowN (by first | rfl | simp) (by repeat' (first | exact trivial | exact TrLe.refl | exact TrLe.nil | refine ⟨?_, ?_⟩)), VZ.refl, trivial⟩⟩, trivial⟩) ?_
 refine X.to (To.frz (as' := [(1, V.ref (ob.length + 3) 0)]) (l' := [none, none, none, some (O.box [V.tr (.sl 12 false (List.map e_Mins [Mins.mk 23 (Loc.mk 0 0) (Loc.mk 2 0) (Loc.mk 0 0) (Loc.mk 0 0) 0 0 []])), V.tr (.sl 1 false (List.map (eI .i64) [0])), V.tr (.sl 1 false (List.map (eI .i64) [1]))])]) 2 rfl ⟨VZ.refl, trivial⟩ ⟨Or.inl rfl, Or.inl rfl, Or.inl rfl, Or.inr ⟨by omega, _, _, rfl, rfl, .box _ _ ⟨VZ.refl, VZ.refl, VZ.rowN (by first | rfl | simp) (by repeat' (first | exact trivial | exact TrLe.refl | exact TrLe.nil | refine ⟨?_, ?_⟩)), trivial⟩⟩, trivial⟩) ?_
 refine X_seq ?_
 refine X_reg (lx_ok γ) ?_
 obtain ⟨x1, f1, h⟩ := bindE h
 simp -implicitDefEqProofs only [go_sem, seval]
 refine callV_eq (text_Encode_ok γ _  f1) rfl rfl ?_
 simp -implicitDefEqProofs only [go_sem, seval]
 refine X_seq ?_
 refine X_reg (lx_ok γ) ?_
 obtain ⟨x2, f2, h⟩ := bindE h
 simp -implicitDefEqProofs only [go_sem, seval]
 refine callV_eq (text_Decode_ok γ _  f2) rfl rfl ?_
 simp -implicitDefEqProofs only [go_sem, seval]
 refine X_seq ?_
 refine X_reg (lx_ok γ) ?_
 cases f3 : (x1.2 == 0)
 ·rw [if_neg (ne_true_of_eq_false f3)] at h
  simp -implicitDefEqProofs only [go_sem, seval, f3]
  obtain rfl := Option.some.inj h
  refine X_ret ?_
  simp -implicitDefEqProofs only [go_sem, seval, f3]
  exact Rt.mv0 (BaseR.refl hob) (by simp) (VM.self (by simp))
 ·rw [if_pos f3] at h
  cases f4 : (x2.2 == 0)
  ·rw [if_neg (ne_true_of_eq_false f4)] at h
   simp -implicitDefEqProofs only [go_sem, seval, f3, f4]
   obtain rfl := Option.some.inj h
   refine X_ret ?_
   simp -implicitDefEqProofs only [go_sem, seval, f3, f4]
   exact Rt.mv0 (BaseR.refl hob) (by simp) (VM.self (by simp))
  ·rw [if_pos f4] at h
   obtain ⟨x3, f5, h⟩ := bindE h
   simp -implicitDefEqProofs only [go_sem, seval, f3, f4]
   refine callV_eq (portolanref01_Same_ok γ _ (by simp -implicitDefEqProofs only [go_sem, seval, f3, f4]; try rfl) (by simp -implicitDefEqProofs only [go_sem, seval, f3, f4]; try rfl) f5) rfl rfl ?_
   cases f6 : x3
   ·rw [if_neg (ne_true_of_eq_false f6)] at h
    simp -implicitDefEqProofs only [go_sem, seval, f3, f4, f6]
    obtain rfl := Option.some.inj h
    refine X_ret ?_
    simp -implicitDefEqProofs only [go_sem, seval, f3, f4, f6]
    exact Rt.mv0 (BaseR.refl hob) (by simp) (VM.self (by simp))
   ·rw [if_pos f6] at h
    obtain ⟨x4, f7, h⟩ := bindE h
    simp -implicitDefEqProofs only [go_sem, seval, f3, f4, f6]
    refine callV_eq (portolanref19_Same_ok γ _ (by simp -implicitDefEqProofs only [go_sem, seval, f3, f4, f6]; try rfl) (by simp -implicitDefEqProofs only [go_sem, seval, f3, f4, f6]; try rfl) (by simp -implicitDefEqProofs only [go_sem, seval, f3, f4, f6]; try rfl) (by simp -implicitDefEqProofs only [go_sem, seval, f3, f4, f6]; try rfl) (by simp -implicitDefEqProofs only [go_sem, seval, f3, f4, f6]; try rfl) (by simp -implicitDefEqProofs only [go_sem, seval, f3, f4, f6]; try rfl) f7) rfl rfl ?_
    cases f8 : x4
    ·rw [if_neg (ne_true_of_eq_false f8)] at h
     simp -implicitDefEqProofs only [go_sem, seval, f3, f4, f6, f8]
     obtain rfl := Option.some.inj h
     refine X_ret ?_
     simp -implicitDefEqProofs only [go_sem, seval, f3, f4, f6, f8]
     exact Rt.mv0 (BaseR.refl hob) (by simp) (VM.self (by simp))
    ·rw [if_pos f8] at h
     obtain ⟨x5, f9, h⟩ := bindE h
     simp -implicitDefEqProofs only [go_sem, seval, f3, f4, f6, f8]
     refine callV_eq (text_In_ok γ _ (by simp -implicitDefEqProofs only [go_sem, seval, f3, f4, f6, f8]; try rfl) (by simp -implicitDefEqProofs only [go_sem, seval, f3, f4, f6, f8]; try rfl) (by simp -implicitDefEqProofs only [go_sem, seval, f3, f4, f6, f8]; try rfl) f9) rfl rfl ?_
     cases f10 : (x5 == 0)
     ·rw [if_neg (ne_true_of_eq_false f10)] at h
      simp -implicitDefEqProofs only [go_sem, seval, f3, f4, f6, f8, f10]
      obtain rfl := Option.some.inj h
      refine X_ret ?_
      simp -implicitDefEqProofs only [go_sem, seval, f3, f4, f6, f8, f10]
      exact Rt.mv0 (BaseR.refl hob) (by simp) (VM.self (by simp))
     ·rw [if_pos f10] at h
      obtain ⟨x6, f11, h⟩ := bindE h
      simp -implicitDefEqProofs only [go_sem, seval, f3, f4, f6, f8, f10]
      refine callV_eq (text_In_ok γ _ (by simp -implicitDefEqProofs only [go_sem, seval, f3, f4, f6, f8, f10]; try rfl) (by simp -implicitDefEqProofs only [go_sem, seval, f3, f4, f6, f8, f10]; try rfl) (by simp -implicitDefEqProofs only [go_sem, seval, f3, f4, f6, f8, f10]; try rfl) f11) rfl rfl ?_
      simp -implicitDefEqProofs only [go_sem, seval, f3, f4, f6, f8, f10]
      obtain rfl := Option.some.inj h
      refine X_ret ?_
      simp -implicitDefEqProofs only [go_sem, seval, f3, f4, f6, f8, f10]
      exact Rt.mv0 (BaseR.refl hob) (by simp) (VM.self (by simp))
end Go.Pf
end
section
set_option maxRecDepth 100000
namespace Go.Pf
open Go Go.Ab Go.Pp Go.Proofs Go.Proofs.S19
attribute [local go_sem] Lxτ Lxγ gam0 Int.toNat_natCast tau3 tau22 tau23 tau25 tau46 tau47 tau49 eI eB eS e_Loc e_Mins e_Text e_text_room e_text_reader e_portolanref19_reader
set_option maxHeartbeats 1000000 in
theorem portolanref19_Great_ok (γ : GT) (ob : OT) {a0 : Text} {v0_0 : V} {v0_1 : V} {v0_2 : V} (hv0_0 : rdK (getO ob) 12 v0_0 = some (List.map e_Mins a0.Code)) (hv0_1 : rdK (getO ob) 1 v0_1 = some (List.map (eI .i64) a0.Starts)) (hv0_2 : rdK (getO ob) 1 v0_2 = some (List.map (eI .i64) a0.Slots)) {r : Bool} (h : portolanref19_Great a0 = some r) :
  Valid (Lx γ) 9 [V.agg [v0_0, v0_1, v0_2]] ob (vbool r) ob := by
 refine valid_X (lx_ok γ) (fn := Tryd.f9) (rs := [.tmp 2]) Tryd.func9 (by kernel_rfl) rfl rfl Tryd.ntmps9 rfl (by simp) fun hb hob => ?_
 have hq := And.intro (rd4 hv0_0) (And.intro (rd4 hv0_1) (rd4 hv0_2))
 rw [portolanref19_Great] at h
 refine X_seq ?_
 refine X_reg (lx_ok γ) ?_
 simp -implicitDefEqProofs only [go_sem, seval, hq]
 refine X_seq ?_
 refine X_reg (lx_ok γ) ?_
 simp -implicitDefEqProofs only [go_sem, seval, hq]
 refine X_seq ?_
 refine X_seq ?_
 refine X_reg (lx_ok γ) ?_
 simp -implicitDefEqProofs only [go_sem, seval, hq]
 refine X_jq (J := fun as1 ob1 => ∃ (x1 : Int), portolanref19_Great.k1 x1 = some r ∧ [(3, vint .i64 x1)] = as1 ∧ ob = ob1) ?_ ?_
 ·rintro as1 ob1 ⟨x1, h, rfl, rfl⟩
  rw [portolanref19_Great.k1] at h
  simp -implicitDefEqProofs only [go_sem, seval, hq]
  refine X_seq ?_
  refine X_reg (lx_ok γ) ?_
  simp -implicitDefEqProofs only [go_sem, seval, hq]
  obtain rfl := Option.some.inj h
  refine X_ret ?_
  simp -implicitDefEqProofs only [go_sem, seval, hq]
  exact Rt.mv1 (BaseR.refl hob) (by simp) (VM.self (by simp))
 ·refine X_block ?_
  obtain ⟨lr1, hl1, hk1, hr1⟩ := aft2 h
  refine X_forN hl1 (fun (i1 : Nat) (s : Int) as1 ob1 => [(1, V.ref ob.length 0), (3, vint .i64 s), (4, vint .i64 (i1 : Int))] = as1 ∧ ob ++ [some (O.box [v0_0, v0_1, v0_2])] = ob1) ⟨_, _, ?_, rfl, rfl⟩ ?_ ?_
  ·exact To.mv [(0, 0)] (BaseR.refl hob) (by simp) (by decide) (by simp only [go_sem]; exact ⟨VM.refA (j := 0) (t := 0) rfl, VM.self (by simp), VM.eqv (by simp) (by simp)⟩) ⟨⟨_, rfl, OM.box _ _ ⟨VM.self (by simpa using Bd.of_rdK hv0_0), VM.self (by simpa using Bd.of_rdK hv0_1), VM.self (by simpa using Bd.of_rdK hv0_2), trivial⟩⟩, trivial⟩
  ·rintro i1 x1 o1 hi1 hw1 h ho1 as1 ob1 ⟨rfl, rfl⟩
   rw [portolanref19_Great.b1] at h
   refine X_seq ?_
   refine X_seq ?_
   refine X_reg (lx_ok γ) ?_
   simp -implicitDefEqProofs only [go_sem, seval, hi1, hq]
   cases f1 : decide (x1 ≤ 2000)
   ·rw [if_neg (ne_true_of_eq_false f1)] at h
    refine X_cond (lx_ok γ) ?_
    simp -implicitDefEqProofs only [go_sem, seval, hi1, f1, hq]
    obtain rfl := Option.some.inj h
    have h := hk1 _ (.inr (ho1 (fun _ hs => nomatch hs)))
    refine X_exit ?_
    try simp -implicitDefEqProofs only [go_sem, ↓reduceIte, Nat.reduceEqDiff, reduceCtorEq]
    refine kJ_in ?_ ⟨x1, h, rfl, rfl⟩
    exact To.mv0 (BaseR.refl hob) (by simp) (by simp only [go_sem]; exact VM.self (by simp))
   ·rw [if_pos f1] at h
    refine X_cond (lx_ok γ) ?_
    simp -implicitDefEqProofs only [go_sem, seval, hi1, f1, hq]
    refine X_skip ?_
    try simp -implicitDefEqProofs only [go_sem]
    refine X_seq ?_
    refine X_block ?_
    refine X_reg (lx_ok γ) ?_
    obtain ⟨x3, f2, h⟩ := bindE h
    obtain ⟨f3, f4⟩ := ixL_nat f2
    have f5 : (0 : Int) ≤ (i1 : Int) := Int.natCast_nonneg _
    simp -implicitDefEqProofs only [go_sem, seval, hi1, f1, hq, f3, f4, f5]
    refine X_reg (lx_ok γ) ?_
    obtain rfl := Option.some.inj h
    simp -implicitDefEqProofs only [go_sem, seval, hi1, f1, hq]
    refine kR_in rfl ?_ ⟨rfl, rfl⟩
    exact To.mv [(0, 0)] (BaseR.refl hob) (by simp) (by decide) (by simp only [go_sem]; exact ⟨VM.refA (j := 0) (t := 0) rfl, VM.self (by simp), VM.eqv (by rw [hw1]) (by simp)⟩) ⟨⟨_, rfl, OM.box _ _ ⟨VM.self (by simpa using Bd.of_rdK hv0_0), VM.self (by simpa using Bd.of_rdK hv0_1), VM.self (by simpa using Bd.of_rdK hv0_2), trivial⟩⟩, trivial⟩
  ·rintro i1 x1 hi1 hn1 as1 ob1 ⟨rfl, rfl⟩
   refine X_seq ?_
   refine X_seq ?_
   refine X_reg (lx_ok γ) ?_
   simp -implicitDefEqProofs only [go_sem, seval, hi1, hq]
   refine X_condF (lx_ok γ) rfl ?_
   have h := hk1 _ (.inl hn1)
   refine X_exit ?_
   try simp -implicitDefEqProofs only [go_sem, ↓reduceIte, Nat.reduceEqDiff, reduceCtorEq]
   refine kJ_in ?_ ⟨x1, h, rfl, rfl⟩
   exact To.mv0 (BaseR.refl hob) (by simp) (by simp only [go_sem]; exact VM.self (by simp))
end Go.Pf
end
section
set_option maxRecDepth 100000
namespace Go.Pf
open Go Go.Ab Go.Pp Go.Proofs Go.Proofs.S19
attribute [local go_sem] Lxτ Lxγ gam0 Int.toNat_natCast tau3 tau4 tau5 tau22 tau23 tau25 tau28 tau29 tau42 tau46 tau47 tau49 eI eB eS e_Loc e_Mins e_Text e_text_room e_text_reader e_portolanref19_reader
set_option maxHeartbeats 1000000 in
theorem portolanlaw19_TextOnce_ok (γ : GT) (ob : OT) {a0 : Text} {a1 : Text} {a2 : Int} {r : Bool} (h : portolanlaw19_TextOnce a0 a1 a2 = some r) :
  Valid (Lx γ) 6 [V.agg [V.tr (.sl 12 false (List.map e_Mins a0.Code)), V.tr (.sl 1 false (List.map (eI .i64) a0.Starts)), V.tr (.sl 1 false (List.map (eI .i64) a0.Slots))], V.agg [V.tr (.sl 12 false (List.map e_Mins a1.Code)), V.tr (.sl 1 false (List.map (eI .i64) a1.Starts)), V.tr (.sl 1 false (List.map (eI .i64) a1.Slots))], vint .u16 a2] ob (vbool r) ob := by
 refine valid_X (lx_ok γ) (fn := Tryd.f6) (rs := [.tmp 6]) Tryd.func6 (by kernel_rfl) rfl rfl Tryd.ntmps6 rfl (by simp) fun hb hob => ?_
 rw [portolanlaw19_TextOnce] at h
 refine X_seq ?_
 refine X_reg (lx_ok γ) ?_
 simp -implicitDefEqProofs only [go_sem, seval]
 refine X_seq ?_
 refine X_seq ?_
 refine X_reg (lx_ok γ) ?_
 obtain ⟨x1, f1, h⟩ := bindE h
 simp -implicitDefEqProofs only [go_sem, seval]
 refine callV_eq (portolanlaw19_alive_ok γ _  f1) rfl rfl ?_
 simp -implicitDefEqProofs only [go_sem, seval]
 cases f2 : x1
 ·rw [if_neg (ne_true_of_eq_false f2)] at h
  refine X_cond (lx_ok γ) ?_
  simp -implicitDefEqProofs only [go_sem, seval, f2]
  refine X_seq ?_
  refine X_reg (lx_ok γ) ?_
  simp -implicitDefEqProofs only [go_sem, seval, f2]
  obtain rfl := Option.some.inj h
  refine X_ret ?_
  simp -implicitDefEqProofs only [go_sem, seval, f2]
  exact Rt.mv0 (BaseR.refl hob) (by simp) (VM.self (by simp))
 ·rw [if_pos f2] at h
  refine X_cond (lx_ok γ) ?_
  simp -implicitDefEqProofs only [go_sem, seval, f2]
  refine X_skip ?_
  try simp -implicitDefEqProofs only [go_sem]
  refine X_seq ?_
  refine X_seq ?_
  refine X_jq (J := fun as1 ob1 => ∃ (x3 : Bool), portolanlaw19_TextOnce.j1 a0 a1 a2 x3 = some r ∧ [(2, vint .u16 a2), (3, V.ref ob.length 0), (4, V.ref (ob.length + 1) 0), (22, vbool x3)] = as1 ∧ ob ++ [some (O.box [V.tr (.sl 12 false (List.map e_Mins a0.Code)), V.tr (.sl 1 false (List.map (eI .i64) a0.Starts)), V.tr (.sl 1 false (List.map (eI .i64) a0.Slots))]), some (O.box [V.tr (.sl 12 false (List.map e_Mins a1.Code)), V.tr (.sl 1 false (List.map (eI .i64) a1.Starts)), V.tr (.sl 1 false (List.map (eI .i64) a1.Slots))])] = ob1) ?_ ?_
  ·rintro as1 ob1 ⟨x3, h, rfl, rfl⟩
   rw [portolanlaw19_TextOnce.j1] at h
   simp -implicitDefEqProofs only [go_sem, seval, f2]
   cases f3 : x3
   ·rw [if_neg (ne_true_of_eq_false f3)] at h
    refine X_cond (lx_ok γ) ?_
    simp -implicitDefEqProofs only [go_sem, seval, f2, f3]
    refine X_skip ?_
    try simp -implicitDefEqProofs only [go_sem]
    refine X_seq ?_
    refine X_reg (lx_ok γ) ?_
    obtain ⟨x4, f4, h⟩ := bindE h
    simp -implicitDefEqProofs only [go_sem, seval, f2, f3]
    refine callV_eq (text_Encode_ok γ _  f4) rfl rfl ?_
    simp -implicitDefEqProofs only [go_sem, seval, f2, f3]
    refine X_seq ?_
    refine X_reg (lx_ok γ) ?_
    obtain ⟨x5, f5, h⟩ := bindE h
    simp -implicitDefEqProofs only [go_sem, seval, f2, f3]
    refine callV_eq (text_Encode_ok γ _  f5) rfl rfl ?_
    simp -implicitDefEqProofs only [go_sem, seval, f2, f3]
    refine X_seq ?_
    refine X_seq ?_
    refine X_jq (J := fun as1 ob1 => ∃ (x7 : Bool), portolanlaw19_TextOnce.j2 a0 a1 a2 x4 x5 x7 = some r ∧ [(2, vint .u16 a2), (3, V.ref ob.length 0), (4, V.ref (ob.length + 1) 0), (7, V.tr (.sl 1 false (List.map (eI .u8) x4.1))), (9, V.tr (.sl 1 false (List.map (eI .u8) x5.1))), (38, vbool x7)] = as1 ∧ ob ++ [some (O.box [V.tr (.sl 12 false (List.map e_Mins a0.Code)), V.tr (.sl 1 false (List.map (eI .i64) a0.Starts)), V.tr (.sl 1 false (List.map (eI .i64) a0.Slots))]), some (O.box [V.tr (.sl 12 false (List.map e_Mins a1.Code)), V.tr (.sl 1 false (List.map (eI .i64) a1.Starts)), V.tr (.sl 1 false (List.map (eI .i64) a1.Slots))])] = ob1) ?_ ?_
    ·rintro as1 ob1 ⟨x7, h, rfl, rfl⟩
     rw [portolanlaw19_TextOnce.j2] at h
     simp -implicitDefEqProofs only [go_sem, seval, f2, f3]
     cases f6 : x7
     ·rw [if_neg (ne_true_of_eq_false f6)] at h
      refine X_cond (lx_ok γ) ?_
      simp -implicitDefEqProofs only [go_sem, seval, f2, f3, f6]
      refine X_skip ?_
      try simp -implicitDefEqProofs only [go_sem]
      refine X_seq ?_
      refine X_reg (lx_ok γ) ?_
      obtain ⟨x8, f7, h⟩ := bindE h
      have f8 : ¬ (List.length x4.1 : Int) = 0 := of_decide_eq_true (chkB_some f7).1
      obtain ⟨x9, f9, h⟩ := bindE h
      obtain ⟨f10, f11, f12⟩ := headL_some f9
      try simp only [Int.toNat_natCast, Int.reduceToNat] at f11 f12
      obtain ⟨x10, f13, h⟩ := bindE h
      simp -implicitDefEqProofs only [go_sem, seval, f2, f3, f6, f8, f10, f11, f12]
      refine callV_eq (text_Decode_ok γ _  f13) rfl rfl ?_
      simp -implicitDefEqProofs only [go_sem, seval, f2, f3, f6, f8, f10, f11, f12]
      refine X_seq ?_
      refine X_reg (lx_ok γ) ?_
      obtain ⟨x11, f14, h⟩ := bindE h
      have f15 : List.length x11 ≤ 140737488355328 := by have := (appL_some f14).1; rw [(appL_some f14).2]; simpa using this
      have f16 : [] ++ List.map (eI .u8) x4.1 = List.map (eI .u8) x11 := by rw [(appL_some f14).2]; simp [eB, eI, eS]
      have f17 : 0 + List.length x4.1 = List.length x11 := by rw [(appL_some f14).2]; simp
      obtain ⟨x12, f18, h⟩ := bindE h
      have f19 : List.length x12 ≤ 140737488355328 := by have := (appL_some f18).1; rw [(appL_some f18).2]; simpa using this
      have f20 : List.map (eI .u8) x11 ++ [[.lit (.int .u8 1)]] = List.map (eI .u8) x12 := by rw [(appL_some f18).2]; simp [eB, eI, eS]
      have f21 : List.length x11 + 1 = List.length x12 := by rw [(appL_some f18).2]; simp
      obtain ⟨x13, f22, h⟩ := bindE h
      simp -implicitDefEqProofs only [go_sem, seval, f2, f3, f6, f15, f16, f17, f19, f20, f21]
      refine callV_eq (Valid.frzR (b := ob) (l := [some (O.box [V.tr (.sl 12 false (List.map e_Mins a0.Code)), V.tr (.sl 1 false (List.map (eI .i64) a0.Starts)), V.tr (.sl 1 false (List.map (eI .i64) a0.Slots))]), some (O.box [V.tr (.sl 12 false (List.map e_Mins a1.Code)), V.tr (.sl 1 false (List.map (eI .i64) a1.Starts)), V.tr (.sl 1 false (List.map (eI .i64) a1.Slots))]), some (O.box [V.tr (.sl 12 false (List.map e_Mins x10.1.Code)), V.tr (.sl 1 false (List.map (eI .i64) x10.1.Starts)), V.tr (.sl 1 false (List.map (eI .i64) x10.1.Slots))]), some (O.row 1 2 (List.map (eI .u8) x12)), some (O.row 1 0 (List.map (eI .u8) [1]))]) (l' := [some (O.box [V.tr (.sl 12 false (List.map e_Mins a0.Code)), V.tr (.sl 1 false (List.map (eI .i64) a0.Starts)), V.tr (.sl 1 false (List.map (eI .i64) a0.Slots))]), some (O.box [V.tr (.sl 12 false (List.map e_Mins a1.Code)), V.tr (.sl 1 false (List.map (eI .i64) a1.Starts)), V.tr (.sl 1 false (List.map (eI .i64) a1.Slots))]), some (O.box [V.tr (.sl 12 false (List.map e_Mins x10.1.Code)), V.tr (.sl 1 false (List.map (eI .i64) x10.1.Starts)), V.tr (.sl 1 false (List.map (eI .i64) x10.1.Slots))]), none, some (O.row 1 0 (List.map (eI .u8) [1]))]) (args := [V.row (ob.length + 3) 2 0 (List.length x12)]) (args' := [V.tr (.sl 1 false (List.map (eI .u8) x12))]) 3 rfl rfl ⟨VZ.row (by first | rfl | simp), trivial⟩ (text_Decode_ok γ _  f22)) rfl rfl ?_
      simp -implicitDefEqProofs only [go_sem, seval, f2, f3, f6, f15, f16, f17, f19, f20, f21]
      refine X_seq ?_
      refine X_drawn (lx_ok γ) [[], [], [0, 1], [], [], [0, 1, 2, 3, 4], [0, 1, 2, 3, 4, 5], [0, 1, 2, 3, 4, 5, 6], [0, 1, 2, 3, 4, 5, 6, 7], [0, 1, 2, 3, 4, 5, 6, 7, 8], [0, 1, 2, 3, 4, 5, 6, 7, 8, 9], [0, 1, 2, 3, 4, 5, 6, 7, 8, 9, 10], [0, 1, 2, 3, 4, 5, 6, 7, 8, 9, 10, 11], [0, 1, 2, 3, 4, 5, 6, 7, 8, 9, 10, 11, 12], [0, 1, 2, 3, 4, 5, 6, 7, 8, 9, 10, 11, 12, 13], [0, 1, 2, 3, 4, 5, 6, 7, 8, 9, 10, 11, 12, 13, 14]] (fun i => match i with | _ => false) (by kernel_rfl) ?_
      obtain ⟨x14, f23, h⟩ := bindE h
      try simp -implicitDefEqProofs only [go_sem, seval, f2, f3, f6, cmpr, List.getD_cons_zero, List.getD_cons_succ, List.contains_cons, List.contains_nil, Nat.reduceBEq, Bool.false_or, Bool.or_false, Bool.true_or, Bool.or_true, beq_self_eq_true]
      refine callV_eq (portolanref01_Same_ok γ _ (by simp -implicitDefEqProofs only [go_sem, seval, f2, f3, f6]; try rfl) (by simp -implicitDefEqProofs only [go_sem, seval, f2, f3, f6]; try rfl) f23) rfl rfl ?_
      obtain ⟨x15, f24, h⟩ := bindE h
      try simp -implicitDefEqProofs only [go_sem, seval, f2, f3, f6, cmpr, List.getD_cons_zero, List.getD_cons_succ, List.contains_cons, List.contains_nil, Nat.reduceBEq, Bool.false_or, Bool.or_false, Bool.true_or, Bool.or_true, beq_self_eq_true]
      refine callV_eq (portolanref19_Same_ok γ _ (by simp -implicitDefEqProofs only [go_sem, seval, f2, f3, f6]; try rfl) (by simp -implicitDefEqProofs only [go_sem, seval, f2, f3, f6]; try rfl) (by simp -implicitDefEqProofs only [go_sem, seval, f2, f3, f6]; try rfl) (by simp -implicitDefEqProofs only [go_sem, seval, f2, f3, f6]; try rfl) (by simp -implicitDefEqProofs only [go_sem, seval, f2, f3, f6]; try rfl) (by simp -implicitDefEqProofs only [go_sem, seval, f2, f3, f6]; try rfl) f24) rfl rfl ?_
      cases f25 : (x14 == x15)
      ·rw [if_neg (ne_true_of_eq_false f25)] at h
       try simp -implicitDefEqProofs only [go_sem, seval, f2, f3, f6, f25, cmpr, List.getD_cons_zero, List.getD_cons_succ, List.contains_cons, List.contains_nil, Nat.reduceBEq, Bool.false_or, Bool.or_false, Bool.true_or, Bool.or_true, beq_self_eq_true]
       obtain rfl := Option.some.inj h
       refine X_ret ?_
       simp -implicitDefEqProofs only [go_sem, seval, f2, f3, f6, f25]
       exact Rt.mv0 (BaseR.refl hob) (by simp) (VM.self (by simp))
      ·rw [if_pos f25] at h
       cases f26 : (x10.2 == 2)
       ·rw [if_neg (ne_true_of_eq_false f26)] at h
        try simp -implicitDefEqProofs only [go_sem, seval, f2, f3, f6, f25, f26, cmpr, List.getD_cons_zero, List.getD_cons_succ, List.contains_cons, List.contains_nil, Nat.reduceBEq, Bool.false_or, Bool.or_false, Bool.true_or, Bool.or_true, beq_self_eq_true]
        obtain rfl := Option.some.inj h
        refine X_ret ?_
        simp -implicitDefEqProofs only [go_sem, seval, f2, f3, f6, f25, f26]
        exact Rt.mv0 (BaseR.refl hob) (by simp) (VM.self (by simp))
       ·rw [if_pos f26] at h
        try simp -implicitDefEqProofs only [go_sem, seval, f2, f3, f6, f25, f26, cmpr, List.getD_cons_zero, List.getD_cons_succ, List.contains_cons, List.contains_nil, Nat.reduceBEq, Bool.false_or, Bool.or_false, Bool.true_or, Bool.or_true, beq_self_eq_true]
        obtain rfl := Option.some.inj h
        refine X_ret ?_
        simp -implicitDefEqProofs only [go_sem, seval, f2, f3, f6, f25, f26]
        exact Rt.mv0 (BaseR.refl hob) (by simp) (VM.self (by simp))
     ·rw [if_pos f6] at h
      refine X_cond (lx_ok γ) ?_
      simp -implicitDefEqProofs only [go_sem, seval, f2, f3, f6]
      refine X_seq ?_
      refine X_reg (lx_ok γ) ?_
      simp -implicitDefEqProofs only [go_sem, seval, f2, f3, f6]
      obtain rfl := Option.some.inj h
      refine X_ret ?_
      simp -implicitDefEqProofs only [go_sem, seval, f2, f3, f6]
      exact Rt.mv0 (BaseR.refl hob) (by simp) (VM.self (by simp))
    ·refine X_reg (lx_ok γ) ?_
     cases f27 : (x4.2 != 0)
     ·rw [if_neg (ne_true_of_eq_false f27)] at h
      simp -implicitDefEqProofs only [go_sem, seval, f2, f3, f27]
      refine kJ_in ?_ ⟨(x5.2 != 0), h, rfl, rfl⟩
      exact To.mv [(0, 0), (1, 0)] (BaseR.refl hob) (by simp) (by decide) (by simp only [go_sem]; exact ⟨VM.self (by simp), VM.refA (j := 0) (t := 0) rfl, VM.refA (j := 1) (t := 1) rfl, VM.self (by simp), VM.self (by simp), VM.self (by simp)⟩) ⟨⟨_, rfl, OM.box _ _ ⟨VM.self (by simp), VM.self (by simp), VM.self (by simp), trivial⟩⟩, ⟨_, rfl, OM.box _ _ ⟨VM.self (by simp), VM.self (by simp), VM.self (by simp), trivial⟩⟩, trivial⟩
     ·rw [if_pos f27] at h
      simp -implicitDefEqProofs only [go_sem, seval, f2, f3, f27]
      refine kJ_in ?_ ⟨true, h, rfl, rfl⟩
      exact To.mv [(0, 0), (1, 0)] (BaseR.refl hob) (by simp) (by decide) (by simp only [go_sem]; exact ⟨VM.self (by simp), VM.refA (j := 0) (t := 0) rfl, VM.refA (j := 1) (t := 1) rfl, VM.self (by simp), VM.self (by simp), VM.self (by simp)⟩) ⟨⟨_, rfl, OM.box _ _ ⟨VM.self (by simp), VM.self (by simp), VM.self (by simp), trivial⟩⟩, ⟨_, rfl, OM.box _ _ ⟨VM.self (by simp), VM.self (by simp), VM.self (by simp), trivial⟩⟩, trivial⟩
   ·rw [if_pos f3] at h
    refine X_cond (lx_ok γ) ?_
    simp -implicitDefEqProofs only [go_sem, seval, f2, f3]
    refine X_seq ?_
    refine X_reg (lx_ok γ) ?_
    simp -implicitDefEqProofs only [go_sem, seval, f2, f3]
    obtain rfl := Option.some.inj h
    refine X_ret ?_
    simp -implicitDefEqProofs only [go_sem, seval, f2, f3]
    exact Rt.mv0 (BaseR.refl hob) (by simp) (VM.self (by simp))
  ·refine X_reg (lx_ok γ) ?_
   obtain ⟨x16, f28, h⟩ := bindE h
   simp -implicitDefEqProofs only [go_sem, seval, f2]
   refine callV_eq (portolanref19_Great_ok γ _ (by simp -implicitDefEqProofs only [go_sem, seval, f2]; try rfl) (by simp -implicitDefEqProofs only [go_sem, seval, f2]; try rfl) (by simp -implicitDefEqProofs only [go_sem, seval, f2]; try rfl) f28) rfl rfl ?_
   cases f29 : x16
   ·rw [if_neg (ne_true_of_eq_false f29)] at h
    obtain ⟨x17, f30, h⟩ := bindE h
    simp -implicitDefEqProofs only [go_sem, seval, f2, f29]
    refine callV_eq (portolanref19_Great_ok γ _ (by simp -implicitDefEqProofs only [go_sem, seval, f2, f29]; try rfl) (by simp -implicitDefEqProofs only [go_sem, seval, f2, f29]; try rfl) (by simp -implicitDefEqProofs only [go_sem, seval, f2, f29]; try rfl) f30) rfl rfl ?_
    simp -implicitDefEqProofs only [go_sem, seval, f2, f29]
    refine kJ_in ?_ ⟨x17, h, rfl, rfl⟩
    exact To.mv [(0, 0), (1, 0)] (BaseR.refl hob) (by simp) (by decide) (by simp only [go_sem]; exact ⟨VM.self (by simp), VM.refA (j := 0) (t := 0) rfl, VM.refA (j := 1) (t := 1) rfl, VM.self (by simp)⟩) ⟨⟨_, rfl, OM.box _ _ ⟨VM.self (by simp), VM.self (by simp), VM.self (by simp), trivial⟩⟩, ⟨_, rfl, OM.box _ _ ⟨VM.self (by simp), VM.self (by simp), VM.self (by simp), trivial⟩⟩, trivial⟩
   ·rw [if_pos f29] at h
    simp -implicitDefEqProofs only [go_sem, seval, f2, f29]
    refine kJ_in ?_ ⟨true, h, rfl, rfl⟩
    exact To.mv [(0, 0), (1, 0)] (BaseR.refl hob) (by simp) (by decide) (by simp only [go_sem]; exact ⟨VM.self (by simp), VM.refA (j := 0) (t := 0) rfl, VM.refA (j := 1) (t := 1) rfl, VM.self (by simp)⟩) ⟨⟨_, rfl, OM.box _ _ ⟨VM.self (by simp), VM.self (by simp), VM.self (by simp), trivial⟩⟩, ⟨_, rfl, OM.box _ _ ⟨VM.self (by simp), VM.self (by simp), VM.self (by simp), trivial⟩⟩, trivial⟩
end Go.Pf
end
