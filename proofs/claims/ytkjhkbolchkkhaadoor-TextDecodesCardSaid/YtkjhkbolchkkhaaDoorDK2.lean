/- Each function computes what its plain one says, part 2 -/
import Derived.Test.YtkjhkbolchkkhaaDoorDK1
set_option linter.all false
section
set_option maxRecDepth 100000
namespace Go.Pf
open Go Go.Ab Go.Pp Go.Proofs Go.Proofs.S19
attribute [local go_sem] Lxτ Lxγ gam0 Int.toNat_natCast tau3 tau46 tau47 eI eB eS e_Loc e_Mins e_Text e_text_room e_text_reader e_portolanref19_reader
set_option maxHeartbeats 1000000 in
theorem portolanref16_Same_ok (γ : GT) (ob : OT) {a0 : List Loc} {v0 : V} {a1 : List Loc} {v1 : V} (hv0 : rdK (getO ob) 2 v0 = some (List.map e_Loc a0)) (hv1 : rdK (getO ob) 2 v1 = some (List.map e_Loc a1)) {r : Bool} (h : portolanref16_Same a0 a1 = some r) :
  Valid (Lx γ) 71 [v0, v1] ob (vbool r) ob := by
 refine valid_X (lx_ok γ) (fn := Tryd.f71) (rs := [.tmp 4]) Tryd.func71 (by kernel_rfl) rfl rfl Tryd.ntmps71 rfl (by simp) fun hb hob => ?_
 have hq := And.intro (rd4 hv0) (rd4 hv1)
 rw [portolanref16_Same] at h
 refine X_seq ?_
 refine X_reg (lx_ok γ) ?_
 simp -implicitDefEqProofs only [go_sem, seval, hq]
 refine X_seq ?_
 refine X_seq ?_
 refine X_reg (lx_ok γ) ?_
 simp -implicitDefEqProofs only [go_sem, seval, hq]
 cases f1 : ((List.length a0 : Int) != (List.length a1 : Int))
 ·rw [if_neg (ne_true_of_eq_false f1)] at h
  refine X_cond (lx_ok γ) ?_
  simp -implicitDefEqProofs only [go_sem, seval, f1, hq]
  refine X_skip ?_
  try simp -implicitDefEqProofs only [go_sem]
  refine X_seq ?_
  refine X_seq ?_
  refine X_reg (lx_ok γ) ?_
  simp -implicitDefEqProofs only [go_sem, seval, f1, hq]
  refine X_jq (J := fun as1 ob1 => portolanref16_Same.k1 = some r ∧ [] = as1 ∧ ob = ob1) ?_ ?_
  ·rintro as1 ob1 ⟨h, rfl, rfl⟩
   rw [portolanref16_Same.k1] at h
   simp -implicitDefEqProofs only [go_sem, seval, f1, hq]
   refine X_seq ?_
   refine X_reg (lx_ok γ) ?_
   simp -implicitDefEqProofs only [go_sem, seval, f1, hq]
   obtain rfl := Option.some.inj h
   refine X_ret ?_
   simp -implicitDefEqProofs only [go_sem, seval, f1, hq]
   exact Rt.mv1 (BaseR.refl hob) (by simp) (VM.self (by simp))
  ·refine X_block ?_
   obtain ⟨lr1, hl1, hk1, hr1⟩ := aft2 h
   refine X_forN hl1 (fun (i1 : Nat) (s : Unit) as1 ob1 => [(0, v0), (1, v1), (5, vint .i64 (i1 : Int))] = as1 ∧ ob = ob1) ⟨_, _, ?_, rfl, rfl⟩ ?_ ?_
   ·exact To.mv1 (BaseR.refl hob) (by simp) (by simp only [go_sem]; exact ⟨VM.self (by simpa using Bd.of_rdK hv0), VM.self (by simpa using Bd.of_rdK hv1), VM.eqv (by simp) (by simp)⟩)
   ·rintro i1 _ o1 hi1 hw1 h ho1 as1 ob1 ⟨rfl, rfl⟩
    rw [portolanref16_Same.b1] at h
    refine X_seq ?_
    refine X_seq ?_
    refine X_reg (lx_ok γ) ?_
    simp -implicitDefEqProofs only [go_sem, seval, f1, hi1, hq]
    refine X_cond (lx_ok γ) ?_
    simp -implicitDefEqProofs only [go_sem, seval, f1, hi1, hq]
    refine X_skip ?_
    try simp -implicitDefEqProofs only [go_sem]
    refine X_seq ?_
    refine X_block ?_
    refine X_seq ?_
    refine X_drawn (lx_ok γ) [[], [], [0, 1], [0, 1, 2], [], [], [4, 5], [4, 5, 6], [0, 1, 2, 3, 4, 5, 6, 7]] (fun i => match i with | _ => false) (by kernel_rfl) ?_
    obtain ⟨x2, f2, h⟩ := bindE h
    obtain ⟨f3, f4⟩ := ixL_nat f2
    have f5 : (0 : Int) ≤ (i1 : Int) := Int.natCast_nonneg _
    obtain ⟨x3, f6, h⟩ := bindE h
    obtain ⟨f7, f8⟩ := ixL_nat f6
    have f9 : (0 : Int) ≤ (i1 : Int) := Int.natCast_nonneg _
    try simp -implicitDefEqProofs only [go_sem, seval, f1, hi1, hq, f3, f4, f5, f7, f8, f9, cmpr, List.getD_cons_zero, List.getD_cons_succ, List.contains_cons, List.contains_nil, Nat.reduceBEq, Bool.false_or, Bool.or_false, Bool.true_or, Bool.or_true, beq_self_eq_true]
    cases f10 : decide (x2.Kind = x3.Kind) && decide (x2.N = x3.N)
    ·rw [if_neg (ne_true_of_eq_false f10)] at h
     refine X_cond (lx_ok γ) ?_
     simp -implicitDefEqProofs only [go_sem, seval, f1, hi1, f10, hq, f3, f4, f5, f7, f8, f9]
     refine X_seq ?_
     refine X_reg (lx_ok γ) ?_
     simp -implicitDefEqProofs only [go_sem, seval, f1, hi1, f10, hq]
     obtain rfl := Option.some.inj h
     have h := hr1 _ (ho1 (fun _ hs => nomatch hs))
     obtain rfl := Option.some.inj h
     refine X_ret ?_
     simp -implicitDefEqProofs only [go_sem, seval, f1, hi1, f10, hq]
     exact Rt.mv1 (BaseR.refl hob) (by simp) (VM.self (by simp))
    ·rw [if_pos f10] at h
     refine X_cond (lx_ok γ) ?_
     simp -implicitDefEqProofs only [go_sem, seval, f1, hi1, f10, hq, f3, f4, f5, f7, f8, f9]
     refine X_skip ?_
     try simp -implicitDefEqProofs only [go_sem]
     refine X_reg (lx_ok γ) ?_
     obtain rfl := Option.some.inj h
     simp -implicitDefEqProofs only [go_sem, seval, f1, hi1, f10, hq]
     refine kR_in rfl ?_ ⟨rfl, rfl⟩
     exact To.mv1 (BaseR.refl hob) (by simp) (by simp only [go_sem]; exact ⟨VM.self (by simpa using Bd.of_rdK hv0), VM.self (by simpa using Bd.of_rdK hv1), VM.eqv (by rw [hw1]) (by simp)⟩)
   ·rintro i1 _ hi1 hn1 as1 ob1 ⟨rfl, rfl⟩
    refine X_seq ?_
    refine X_seq ?_
    refine X_reg (lx_ok γ) ?_
    simp -implicitDefEqProofs only [go_sem, seval, f1, hi1, hq]
    refine X_cond (lx_ok γ) ?_
    simp -implicitDefEqProofs only [go_sem, seval, f1, hi1, hq]
    have h := hk1 _ (.inl hn1)
    refine X_exit ?_
    try simp -implicitDefEqProofs only [go_sem, ↓reduceIte, Nat.reduceEqDiff, reduceCtorEq]
    refine kJ_in ?_ ⟨h, rfl, rfl⟩
    exact To.mv1 (BaseR.refl hob) (by simp) trivial
 ·rw [if_pos f1] at h
  refine X_cond (lx_ok γ) ?_
  simp -implicitDefEqProofs only [go_sem, seval, f1, hq]
  refine X_seq ?_
  refine X_reg (lx_ok γ) ?_
  simp -implicitDefEqProofs only [go_sem, seval, f1, hq]
  obtain rfl := Option.some.inj h
  refine X_ret ?_
  simp -implicitDefEqProofs only [go_sem, seval, f1, hq]
  exact Rt.mv1 (BaseR.refl hob) (by simp) (VM.self (by simp))
end Go.Pf
end
section
set_option maxRecDepth 100000
namespace Go.Pf
open Go Go.Ab Go.Pp Go.Proofs Go.Proofs.S19
attribute [local go_sem] Lxτ Lxγ gam0 Int.toNat_natCast tau3 tau46 tau47 tau49 eI eB eS e_Loc e_Mins e_Text e_text_room e_text_reader e_portolanref19_reader
set_option maxHeartbeats 1000000 in
theorem portolanref19_SameIns_ok (γ : GT) (ob : OT) {a0 : Mins} {v0_11 : V} {a1 : Mins} {v1_11 : V} (hv0_11 : rdK (getO ob) 2 v0_11 = some (List.map e_Loc a0.Args)) (hv1_11 : rdK (getO ob) 2 v1_11 = some (List.map e_Loc a1.Args)) {r : Bool} (h : portolanref19_SameIns a0 a1 = some r) :
  Valid (Lx γ) 45 [V.agg [vint .i64 a0.Op, vint .i64 a0.D.Kind, vint .i64 a0.D.N, vint .i64 a0.A.Kind, vint .i64 a0.A.N, vint .i64 a0.B.Kind, vint .i64 a0.B.N, vint .i64 a0.C.Kind, vint .i64 a0.C.N, vint .i64 a0.N, vint .i64 a0.M, v0_11], V.agg [vint .i64 a1.Op, vint .i64 a1.D.Kind, vint .i64 a1.D.N, vint .i64 a1.A.Kind, vint .i64 a1.A.N, vint .i64 a1.B.Kind, vint .i64 a1.B.N, vint .i64 a1.C.Kind, vint .i64 a1.C.N, vint .i64 a1.N, vint .i64 a1.M, v1_11]] ob (vbool r) ob := by
 refine valid_X (lx_ok γ) (fn := Tryd.f45) (rs := [.tmp 4]) Tryd.func45 (by kernel_rfl) rfl rfl Tryd.ntmps45 rfl (by simp) fun hb hob => ?_
 have hq := And.intro (rd4 hv0_11) (rd4 hv1_11)
 rw [portolanref19_SameIns] at h
 refine X_seq ?_
 refine X_reg (lx_ok γ) ?_
 simp -implicitDefEqProofs only [go_sem, seval, hq]
 refine X_seq ?_
 refine X_reg (lx_ok γ) ?_
 cases f1 : (a0.Op == a1.Op)
 ·rw [if_neg (ne_true_of_eq_false f1)] at h
  simp -implicitDefEqProofs only [go_sem, seval, f1, hq]
  obtain rfl := Option.some.inj h
  refine X_ret ?_
  simp -implicitDefEqProofs only [go_sem, seval, f1, hq]
  exact Rt.mv0 (BaseR.refl hob) (by simp) (VM.self (by simp))
 ·rw [if_pos f1] at h
  cases f2 : decide (a0.D.Kind = a1.D.Kind) && decide (a0.D.N = a1.D.N)
  ·rw [if_neg (ne_true_of_eq_false f2)] at h
   simp -implicitDefEqProofs only [go_sem, seval, f1, f2, hq]
   obtain rfl := Option.some.inj h
   refine X_ret ?_
   simp -implicitDefEqProofs only [go_sem, seval, f1, f2, hq]
   exact Rt.mv0 (BaseR.refl hob) (by simp) (VM.self (by simp))
  ·rw [if_pos f2] at h
   cases f3 : decide (a0.A.Kind = a1.A.Kind) && decide (a0.A.N = a1.A.N)
   ·rw [if_neg (ne_true_of_eq_false f3)] at h
    simp -implicitDefEqProofs only [go_sem, seval, f1, f2, f3, hq]
    obtain rfl := Option.some.inj h
    refine X_ret ?_
    simp -implicitDefEqProofs only [go_sem, seval, f1, f2, f3, hq]
    exact Rt.mv0 (BaseR.refl hob) (by simp) (VM.self (by simp))
   ·rw [if_pos f3] at h
    cases f4 : decide (a0.B.Kind = a1.B.Kind) && decide (a0.B.N = a1.B.N)
    ·rw [if_neg (ne_true_of_eq_false f4)] at h
     simp -implicitDefEqProofs only [go_sem, seval, f1, f2, f3, f4, hq]
     obtain rfl := Option.some.inj h
     refine X_ret ?_
     simp -implicitDefEqProofs only [go_sem, seval, f1, f2, f3, f4, hq]
     exact Rt.mv0 (BaseR.refl hob) (by simp) (VM.self (by simp))
    ·rw [if_pos f4] at h
     cases f5 : decide (a0.C.Kind = a1.C.Kind) && decide (a0.C.N = a1.C.N)
     ·rw [if_neg (ne_true_of_eq_false f5)] at h
      simp -implicitDefEqProofs only [go_sem, seval, f1, f2, f3, f4, f5, hq]
      obtain rfl := Option.some.inj h
      refine X_ret ?_
      simp -implicitDefEqProofs only [go_sem, seval, f1, f2, f3, f4, f5, hq]
      exact Rt.mv0 (BaseR.refl hob) (by simp) (VM.self (by simp))
     ·rw [if_pos f5] at h
      cases f6 : (a0.N == a1.N)
      ·rw [if_neg (ne_true_of_eq_false f6)] at h
       simp -implicitDefEqProofs only [go_sem, seval, f1, f2, f3, f4, f5, f6, hq]
       obtain rfl := Option.some.inj h
       refine X_ret ?_
       simp -implicitDefEqProofs only [go_sem, seval, f1, f2, f3, f4, f5, f6, hq]
       exact Rt.mv0 (BaseR.refl hob) (by simp) (VM.self (by simp))
      ·rw [if_pos f6] at h
       cases f7 : (a0.M == a1.M)
       ·rw [if_neg (ne_true_of_eq_false f7)] at h
        simp -implicitDefEqProofs only [go_sem, seval, f1, f2, f3, f4, f5, f6, f7, hq]
        obtain rfl := Option.some.inj h
        refine X_ret ?_
        simp -implicitDefEqProofs only [go_sem, seval, f1, f2, f3, f4, f5, f6, f7, hq]
        exact Rt.mv0 (BaseR.refl hob) (by simp) (VM.self (by simp))
       ·rw [if_pos f7] at h
        obtain ⟨x1, f8, h⟩ := bindE h
        simp -implicitDefEqProofs only [go_sem, seval, f1, f2, f3, f4, f5, f6, f7, hq]
        refine callV_eq (portolanref16_Same_ok γ _ (by first | exact rdK_app hv0_11 | exact hv0_11) (by first | exact rdK_app hv1_11 | exact hv1_11) f8) rfl rfl ?_
        simp -implicitDefEqProofs only [go_sem, seval, f1, f2, f3, f4, f5, f6, f7, hq]
        obtain rfl := Option.some.inj h
        refine X_ret ?_
        simp -implicitDefEqProofs only [go_sem, seval, f1, f2, f3, f4, f5, f6, f7, hq]
        exact Rt.mv0 (BaseR.refl hob) (by simp) (VM.self (by simp))
end Go.Pf
end
section
set_option maxRecDepth 100000
namespace Go.Pf
open Go Go.Ab Go.Pp Go.Proofs Go.Proofs.S19
attribute [local go_sem] Lxτ Lxγ gam0 Int.toNat_natCast tau3 tau4 tau22 tau23 tau25 tau46 tau47 tau49 eI eB eS e_Loc e_Mins e_Text e_text_room e_text_reader e_portolanref19_reader
set_option maxHeartbeats 1000000 in
theorem portolanref19_Same_ok (γ : GT) (ob : OT) {a0 : Text} {v0_0 : V} {v0_1 : V} {v0_2 : V} {a1 : Text} {v1_0 : V} {v1_1 : V} {v1_2 : V} (hv0_0 : rdK (getO ob) 12 v0_0 = some (List.map e_Mins a0.Code)) (hv0_1 : rdK (getO ob) 1 v0_1 = some (List.map (eI .i64) a0.Starts)) (hv0_2 : rdK (getO ob) 1 v0_2 = some (List.map (eI .i64) a0.Slots)) (hv1_0 : rdK (getO ob) 12 v1_0 = some (List.map e_Mins a1.Code)) (hv1_1 : rdK (getO ob) 1 v1_1 = some (List.map (eI .i64) a1.Starts)) (hv1_2 : rdK (getO ob) 1 v1_2 = some (List.map (eI .i64) a1.Slots)) {r : Bool} (h : portolanref19_Same a0 a1 = some r) :
  Valid (Lx γ) 21 [V.agg [v0_0, v0_1, v0_2], V.agg [v1_0, v1_1, v1_2]] ob (vbool r) ob := by
 refine valid_X (lx_ok γ) (fn := Tryd.f21) (rs := [.tmp 4]) Tryd.func21 (by kernel_rfl) rfl rfl Tryd.ntmps21 rfl (by simp) fun hb hob => ?_
 have hq := And.intro (rd4 hv0_0) (And.intro (rd4 hv0_1) (And.intro (rd4 hv0_2) (And.intro (rd4 hv1_0) (And.intro (rd4 hv1_1) (rd4 hv1_2)))))
 rw [portolanref19_Same] at h
 refine X_seq ?_
 refine X_reg (lx_ok γ) ?_
 simp -implicitDefEqProofs only [go_sem, seval, hq]
 refine X_seq ?_
 refine X_seq ?_
 refine X_jq (J := fun as1 ob1 => ∃ (x2 : Bool), portolanref19_Same.j1 a0 a1 x2 = some r ∧ [(2, V.ref ob.length 0), (3, V.ref (ob.length + 1) 0), (28, vbool x2)] = as1 ∧ ob ++ [some (O.box [v0_0, v0_1, v0_2]), some (O.box [v1_0, v1_1, v1_2])] = ob1) ?_ ?_
 ·rintro as1 ob1 ⟨x2, h, rfl, rfl⟩
  rw [portolanref19_Same.j1] at h
  simp -implicitDefEqProofs only [go_sem, seval, hq]
  cases f1 : x2
  ·rw [if_neg (ne_true_of_eq_false f1)] at h
   refine X_cond (lx_ok γ) ?_
   simp -implicitDefEqProofs only [go_sem, seval, f1, hq]
   refine X_skip ?_
   try simp -implicitDefEqProofs only [go_sem]
   refine X_seq ?_
   refine X_seq ?_
   refine X_reg (lx_ok γ) ?_
   simp -implicitDefEqProofs only [go_sem, seval, f1, hq]
   refine X_jq (J := fun as1 ob1 => portolanref19_Same.k1 = some r ∧ [] = as1 ∧ ob = ob1) ?_ ?_
   ·rintro as1 ob1 ⟨h, rfl, rfl⟩
    rw [portolanref19_Same.k1] at h
    simp -implicitDefEqProofs only [go_sem, seval, f1, hq]
    refine X_seq ?_
    refine X_reg (lx_ok γ) ?_
    simp -implicitDefEqProofs only [go_sem, seval, f1, hq]
    obtain rfl := Option.some.inj h
    refine X_ret ?_
    simp -implicitDefEqProofs only [go_sem, seval, f1, hq]
    exact Rt.mv1 (BaseR.refl hob) (by simp) (VM.self (by simp))
   ·refine X_block ?_
    obtain ⟨lr1, hl1, hk1, hr1⟩ := aft2 h
    refine X_forN hl1 (fun (i1 : Nat) (s : Unit) as1 ob1 => [(2, V.ref ob.length 0), (3, V.ref (ob.length + 1) 0), (5, vint .i64 (i1 : Int))] = as1 ∧ ob ++ [some (O.box [v0_0, v0_1, v0_2]), some (O.box [v1_0, v1_1, v1_2])] = ob1) ⟨_, _, ?_, rfl, rfl⟩ ?_ ?_
    ·exact To.mv [(0, 0), (1, 0)] (BaseR.refl hob) (by simp) (by decide) (by simp only [go_sem]; exact ⟨VM.refA (j := 0) (t := 0) rfl, VM.refA (j := 1) (t := 1) rfl, VM.eqv (by simp) (by simp)⟩) ⟨⟨_, rfl, OM.box _ _ ⟨VM.self (by simpa using Bd.of_rdK hv0_0), VM.self (by simpa using Bd.of_rdK hv0_1), VM.self (by simpa using Bd.of_rdK hv0_2), trivial⟩⟩, ⟨_, rfl, OM.box _ _ ⟨VM.self (by simpa using Bd.of_rdK hv1_0), VM.self (by simpa using Bd.of_rdK hv1_1), VM.self (by simpa using Bd.of_rdK hv1_2), trivial⟩⟩, trivial⟩
    ·rintro i1 _ o1 hi1 hw1 h ho1 as1 ob1 ⟨rfl, rfl⟩
     rw [portolanref19_Same.b1] at h
     refine X_seq ?_
     refine X_seq ?_
     refine X_reg (lx_ok γ) ?_
     simp -implicitDefEqProofs only [go_sem, seval, f1, hi1, hq]
     refine X_cond (lx_ok γ) ?_
     simp -implicitDefEqProofs only [go_sem, seval, f1, hi1, hq]
     refine X_skip ?_
     try simp -implicitDefEqProofs only [go_sem]
     refine X_seq ?_
     refine X_block ?_
     refine X_seq ?_
     refine X_drawn (lx_ok γ) [[], [0], [], [0, 1, 2], [0, 1, 2, 3], [], [5], [], [5, 6, 7], [5, 6, 7, 8], [0, 1, 2, 3, 4, 5, 6, 7, 8, 9], [0, 1, 2, 3, 4, 5, 6, 7, 8, 9, 10]] (fun i => match i with | _ => false) (by kernel_rfl) ?_
     obtain ⟨x4, f2, h⟩ := bindE h
     obtain ⟨f3, f4⟩ := ixL_nat f2
     have f5 : (0 : Int) ≤ (i1 : Int) := Int.natCast_nonneg _
     obtain ⟨x5, f6, h⟩ := bindE h
     obtain ⟨f7, f8⟩ := ixL_nat f6
     have f9 : (0 : Int) ≤ (i1 : Int) := Int.natCast_nonneg _
     obtain ⟨x6, f10, h⟩ := bindE h
     try simp -implicitDefEqProofs only [go_sem, seval, f1, hi1, hq, f3, f4, f5, f7, f8, f9, cmpr, List.getD_cons_zero, List.getD_cons_succ, List.contains_cons, List.contains_nil, Nat.reduceBEq, Bool.false_or, Bool.or_false, Bool.true_or, Bool.or_true, beq_self_eq_true]
     refine callV_eq (portolanref19_SameIns_ok γ _ (by simp -implicitDefEqProofs only [go_sem, seval, f1, hi1, hq, f3, f4, f5, f7, f8, f9]; try rfl) (by simp -implicitDefEqProofs only [go_sem, seval, f1, hi1, hq, f3, f4, f5, f7, f8, f9]; try rfl) f10) rfl rfl ?_
     try simp -implicitDefEqProofs only [go_sem, seval, f1, hi1, hq, f3, f4, f5, f7, f8, f9, cmpr, List.getD_cons_zero, List.getD_cons_succ, List.contains_cons, List.contains_nil, Nat.reduceBEq, Bool.false_or, Bool.or_false, Bool.true_or, Bool.or_true, beq_self_eq_true]
     cases f11 : x6
     ·rw [if_neg (ne_true_of_eq_false f11)] at h
      refine X_cond (lx_ok γ) ?_
      simp -implicitDefEqProofs only [go_sem, seval, f1, hi1, f11, hq, f3, f4, f5, f7, f8, f9]
      refine X_seq ?_
      refine X_reg (lx_ok γ) ?_
      simp -implicitDefEqProofs only [go_sem, seval, f1, hi1, f11, hq]
      obtain rfl := Option.some.inj h
      have h := hr1 _ (ho1 (fun _ hs => nomatch hs))
      obtain rfl := Option.some.inj h
      refine X_ret ?_
      simp -implicitDefEqProofs only [go_sem, seval, f1, hi1, f11, hq]
      exact Rt.mv0 (BaseR.refl hob) (by simp) (VM.self (by simp))
     ·rw [if_pos f11] at h
      refine X_cond (lx_ok γ) ?_
      simp -implicitDefEqProofs only [go_sem, seval, f1, hi1, f11, hq, f3, f4, f5, f7, f8, f9]
      refine X_skip ?_
      try simp -implicitDefEqProofs only [go_sem]
      refine X_reg (lx_ok γ) ?_
      obtain rfl := Option.some.inj h
      simp -implicitDefEqProofs only [go_sem, seval, f1, hi1, f11, hq]
      refine kR_in rfl ?_ ⟨rfl, rfl⟩
      exact To.mv [(0, 0), (1, 0)] (BaseR.refl hob) (by simp) (by decide) (by simp only [go_sem]; exact ⟨VM.refA (j := 0) (t := 0) rfl, VM.refA (j := 1) (t := 1) rfl, VM.eqv (by rw [hw1]) (by simp)⟩) ⟨⟨_, rfl, OM.box _ _ ⟨VM.self (by simpa using Bd.of_rdK hv0_0), VM.self (by simpa using Bd.of_rdK hv0_1), VM.self (by simpa using Bd.of_rdK hv0_2), trivial⟩⟩, ⟨_, rfl, OM.box _ _ ⟨VM.self (by simpa using Bd.of_rdK hv1_0), VM.self (by simpa using Bd.of_rdK hv1_1), VM.self (by simpa using Bd.of_rdK hv1_2), trivial⟩⟩, trivial⟩
    ·rintro i1 _ hi1 hn1 as1 ob1 ⟨rfl, rfl⟩
     refine X_seq ?_
     refine X_seq ?_
     refine X_reg (lx_ok γ) ?_
     simp -implicitDefEqProofs only [go_sem, seval, f1, hi1, hq]
     refine X_cond (lx_ok γ) ?_
     simp -implicitDefEqProofs only [go_sem, seval, f1, hi1, hq]
     have h := hk1 _ (.inl hn1)
     refine X_exit ?_
     try simp -implicitDefEqProofs only [go_sem, ↓reduceIte, Nat.reduceEqDiff, reduceCtorEq]
     refine kJ_in ?_ ⟨h, rfl, rfl⟩
     exact To.mv0 (BaseR.refl hob) (by simp) trivial
  ·rw [if_pos f1] at h
   refine X_cond (lx_ok γ) ?_
   simp -implicitDefEqProofs only [go_sem, seval, f1, hq]
   refine X_seq ?_
   refine X_reg (lx_ok γ) ?_
   simp -implicitDefEqProofs only [go_sem, seval, f1, hq]
   obtain rfl := Option.some.inj h
   refine X_ret ?_
   simp -implicitDefEqProofs only [go_sem, seval, f1, hq]
   exact Rt.mv0 (BaseR.refl hob) (by simp) (VM.self (by simp))
 ·refine X_reg (lx_ok γ) ?_
  cases f12 : ((List.length a0.Code : Int) != (List.length a1.Code : Int))
  ·rw [if_neg (ne_true_of_eq_false f12)] at h
   obtain ⟨x7, f13, h⟩ := bindE h
   simp -implicitDefEqProofs only [go_sem, seval, f12, hq]
   refine callV_eq (portolanref01_Ints_ok γ _ (by first | exact rdK_app hv0_1 | exact hv0_1) (by first | exact rdK_app hv1_1 | exact hv1_1) f13) rfl rfl ?_
   cases f14 : x7
   ·rw [if_neg (ne_true_of_eq_false f14)] at h
    simp -implicitDefEqProofs only [go_sem, seval, f12, f14, hq]
    refine kJ_in ?_ ⟨true, h, rfl, rfl⟩
    exact To.mv [(0, 0), (1, 0)] (BaseR.refl hob) (by simp) (by decide) (by simp only [go_sem]; exact ⟨VM.refA (j := 0) (t := 0) rfl, VM.refA (j := 1) (t := 1) rfl, VM.self (by simp)⟩) ⟨⟨_, rfl, OM.box _ _ ⟨VM.self (by simpa using Bd.of_rdK hv0_0), VM.self (by simpa using Bd.of_rdK hv0_1), VM.self (by simpa using Bd.of_rdK hv0_2), trivial⟩⟩, ⟨_, rfl, OM.box _ _ ⟨VM.self (by simpa using Bd.of_rdK hv1_0), VM.self (by simpa using Bd.of_rdK hv1_1), VM.self (by simpa using Bd.of_rdK hv1_2), trivial⟩⟩, trivial⟩
   ·rw [if_pos f14] at h
    obtain ⟨x8, f15, h⟩ := bindE h
    simp -implicitDefEqProofs only [go_sem, seval, f12, f14, hq]
    refine callV_eq (portolanref01_Ints_ok γ _ (by first | exact rdK_app hv0_2 | exact hv0_2) (by first | exact rdK_app hv1_2 | exact hv1_2) f15) rfl rfl ?_
    simp -implicitDefEqProofs only [go_sem, seval, f12, f14, hq]
    refine kJ_in ?_ ⟨(!x8), h, rfl, rfl⟩
    exact To.mv [(0, 0), (1, 0)] (BaseR.refl hob) (by simp) (by decide) (by simp only [go_sem]; exact ⟨VM.refA (j := 0) (t := 0) rfl, VM.refA (j := 1) (t := 1) rfl, VM.self (by simp)⟩) ⟨⟨_, rfl, OM.box _ _ ⟨VM.self (by simpa using Bd.of_rdK hv0_0), VM.self (by simpa using Bd.of_rdK hv0_1), VM.self (by simpa using Bd.of_rdK hv0_2), trivial⟩⟩, ⟨_, rfl, OM.box _ _ ⟨VM.self (by simpa using Bd.of_rdK hv1_0), VM.self (by simpa using Bd.of_rdK hv1_1), VM.self (by simpa using Bd.of_rdK hv1_2), trivial⟩⟩, trivial⟩
  ·rw [if_pos f12] at h
   simp -implicitDefEqProofs only [go_sem, seval, f12, hq]
   refine kJ_in ?_ ⟨true, h, rfl, rfl⟩
   exact To.mv [(0, 0), (1, 0)] (BaseR.refl hob) (by simp) (by decide) (by simp only [go_sem]; exact ⟨VM.refA (j := 0) (t := 0) rfl, VM.refA (j := 1) (t := 1) rfl, VM.self (by simp)⟩) ⟨⟨_, rfl, OM.box _ _ ⟨VM.self (by simpa using Bd.of_rdK hv0_0), VM.self (by simpa using Bd.of_rdK hv0_1), VM.self (by simpa using Bd.of_rdK hv0_2), trivial⟩⟩, ⟨_, rfl, OM.box _ _ ⟨VM.self (by simpa using Bd.of_rdK hv1_0), VM.self (by simpa using Bd.of_rdK hv1_1), VM.self (by simpa using Bd.of_rdK hv1_2), trivial⟩⟩, trivial⟩
end Go.Pf
end
section
set_option maxRecDepth 100000
namespace Go.Pf
open Go Go.Ab Go.Pp Go.Proofs Go.Proofs.S19
attribute [local go_sem] Lxτ Lxγ gam0 Int.toNat_natCast tau3 tau5 tau22 tau23 tau25 tau28 tau29 tau46 tau47 tau49 eI eB eS e_Loc e_Mins e_Text e_text_room e_text_reader e_portolanref19_reader
set_option maxHeartbeats 1000000 in
theorem portolanlaw19_alive_ok (γ : GT) (ob : OT)  {r : Bool} (h : portolanlaw19_alive = some r) :
  Valid (Lx γ) 8 [] ob (vbool r) ob := by
 refine valid_X (lx_ok γ) (fn := Tryd.f8) (rs := [.tmp 0]) Tryd.func8 (by kernel_rfl) rfl rfl Tryd.ntmps8 rfl (by simp) fun hb hob => ?_
 rw [portolanlaw19_alive] at h
 refine X_seq ?_
 refine X_reg (lx_ok γ) ?_
 simp -implicitDefEqProofs only [go_sem, seval]
 refine X_seq ?_
 refine X_reg (lx_ok γ) ?_
 simp -implicitDefEqProofs only [go_sem, seval]
 refine X.to (To.frz (as' := [(1, V.ref (ob.length + 3) 0)]) (l' := [none, some (O.row 1 0 (List.map (eI .i64) [0])), some (O.row 1 0 (List.map (eI .i64) [1])), some (O.box [V.tr (.sl 12 false (List.map e_Mins [Mins.mk 23 (Loc.mk 0 0) (Loc.mk 2 0) (Loc.mk 0 0) (Loc.mk 0 0) 0 0 []])), V.row (ob.length + 1) 0 0 1, V.row (ob.length + 2) 0 0 1])]) 0 rfl ⟨VZ.refl, trivial⟩ ⟨Or.inl rfl, Or.inr ⟨by omega, _, _, rfl, rfl, .same _⟩, Or.inr ⟨by omega, _, _, rfl, rfl, .same _⟩, Or.inr ⟨by omega, _, _, rfl, rfl, .box _ _ ⟨VZ.rowN (by first | rfl | simp) (by repeat' (first | exact trivial | exact TrLe.refl | exact TrLe.nil | refine ⟨?_, ?_⟩)), VZ.refl, VZ.refl, trivial⟩⟩, trivial⟩) ?_
 refine X.to (To.frz (as' := [(1, V.ref (ob.length + 3) 0)]) (l' := [none, none, some (O.row 1 0 (List.map (eI .i64) [1])), some (O.box [V.tr (.sl 12 false (List.map e_Mins [Mins.mk 23 (Loc.mk 0 0) (Loc.mk 2 0) (Loc.mk 0 0) (Loc.mk 0 0) 0 0 []])), V.tr (.sl 1 false (List.map (eI .i64) [0])), V.row (ob.length + 2) 0 0 1])]) 1 rfl ⟨VZ.refl, trivial⟩ ⟨Or.inl rfl, Or.inl rfl, Or.inr ⟨by omega, _, _, rfl, rfl, .same _⟩, Or.inr ⟨by omega, _, _, rfl, rfl, .box _ _ ⟨VZ.refl, VZ.rowN (by first | rfl | simp) (by repeat' (first | exact trivial | exact TrLe.refl | exact TrLe.nil | refine ⟨?_, ?_⟩)), VZ.refl, trivial⟩⟩, trivial⟩) ?_
 refine X.to (To.frz (as' := [(1, V.ref (ob.length + 3) 0)]) (l' := [none, none, none, some (O.box [V.tr (.sl 12 false (List.map e_Mins [Mins.mk 23 (Loc.mk 0 0) (Loc.mk 2 0) (Loc.mk 0 0) (Loc.mk 0 0) 0 0 []])), V.tr (.sl 1 false (List.map (eI .i64) [0])), V.tr (.sl 1 false (List.map (eI .i64) [1]))])]) 2 rfl ⟨VZ.refl, trivial⟩ ⟨Or.inl rfl, Or.inl rfl, Or.inl rfl, Or.inr ⟨by omega, _, _, rfl, rfl, .box _ _ ⟨VZ.refl, VZ.refl, VZ.rowN (by first | rfl | simp) (by repeat' (first | exact trivial | exact TrLe.refl | exact TrLe.nil | refine ⟨?_, ?_⟩)), trivial⟩⟩, trivial⟩) ?_
 refine X_seq ?_
 refine X_reg (lx_ok γ) ?_
 obtain ⟨x1, f1, h⟩ := bindE h
 simp -implicitDefEqProofs only [go_sem, seval]
 refine callV_eq (text_Encode_ok γ _  f1) rfl rfl ?_
 simp -implicitDefEqProofs only [go_sem, seval]
 refine X_seq ?_
 refine X_reg (lx_ok γ) ?_
 obtain ⟨x2, f2, h⟩ := bindE h
 simp -implicitDefEqProofs only [go_sem, seval]
 refine callV_eq (text_Decode_ok γ _  f2) rfl rfl ?_
 simp -implicitDefEqProofs only [go_sem, seval]
 refine X_seq ?_
 refine X_reg (lx_ok γ) ?_
 cases f3 : (x1.2 == 0)
 ·rw [if_neg (ne_true_of_eq_false f3)] at h
  simp -implicitDefEqProofs only [go_sem, seval, f3]
  obtain rfl := Option.some.inj h
  refine X_ret ?_
  simp -implicitDefEqProofs only [go_sem, seval, f3]
  exact Rt.mv0 (BaseR.refl hob) (by simp) (VM.self (by simp))
 ·rw [if_pos f3] at h
  cases f4 : (x2.2 == 0)
  ·rw [if_neg (ne_true_of_eq_false f4)] at h
   simp -implicitDefEqProofs only [go_sem, seval, f3, f4]
   obtain rfl := Option.some.inj h
   refine X_ret ?_
   simp -implicitDefEqProofs only [go_sem, seval, f3, f4]
   exact Rt.mv0 (BaseR.refl hob) (by simp) (VM.self (by simp))
  ·rw [if_pos f4] at h
   obtain ⟨x3, f5, h⟩ := bindE h
   simp -implicitDefEqProofs only [go_sem, seval, f3, f4]
   refine callV_eq (portolanref01_Same_ok γ _ (by simp -implicitDefEqProofs only [go_sem, seval, f3, f4]; try rfl) (by simp -implicitDefEqProofs only [go_sem, seval, f3, f4]; try rfl) f5) rfl rfl ?_
   cases f6 : x3
   ·rw [if_neg (ne_true_of_eq_false f6)] at h
    simp -implicitDefEqProofs only [go_sem, seval, f3, f4, f6]
    obtain rfl := Option.some.inj h
    refine X_ret ?_
    simp -implicitDefEqProofs only [go_sem, seval, f3, f4, f6]
    exact Rt.mv0 (BaseR.refl hob) (by simp) (VM.self (by simp))
   ·rw [if_pos f6] at h
    obtain ⟨x4, f7, h⟩ := bindE h
    simp -implicitDefEqProofs only [go_sem, seval, f3, f4, f6]
    refine callV_eq (portolanref19_Same_ok γ _ (by simp -implicitDefEqProofs only [go_sem, seval, f3, f4, f6]; try rfl) (by simp -implicitDefEqProofs only [go_sem, seval, f3, f4, f6]; try rfl) (by simp -implicitDefEqProofs only [go_sem, seval, f3, f4, f6]; try rfl) (by simp -implicitDefEqProofs only [go_sem, seval, f3, f4, f6]; try rfl) (by simp -implicitDefEqProofs only [go_sem, seval, f3, f4, f6]; try rfl) (by simp -implicitDefEqProofs only [go_sem, seval, f3, f4, f6]; try rfl) f7) rfl rfl ?_
    cases f8 : x4
    ·rw [if_neg (ne_true_of_eq_false f8)] at h
     simp -implicitDefEqProofs only [go_sem, seval, f3, f4, f6, f8]
     obtain rfl := Option.some.inj h
     refine X_ret ?_
     simp -implicitDefEqProofs only [go_sem, seval, f3, f4, f6, f8]
     exact Rt.mv0 (BaseR.refl hob) (by simp) (VM.self (by simp))
    ·rw [if_pos f8] at h
     obtain ⟨x5, f9, h⟩ := bindE h
     simp -implicitDefEqProofs only [go_sem, seval, f3, f4, f6, f8]
     refine callV_eq (text_In_ok γ _ (by simp -implicitDefEqProofs only [go_sem, seval, f3, f4, f6, f8]; try rfl) (by simp -implicitDefEqProofs only [go_sem, seval, f3, f4, f6, f8]; try rfl) (by simp -implicitDefEqProofs only [go_sem, seval, f3, f4, f6, f8]; try rfl) f9) rfl rfl ?_
     cases f10 : (x5 == 0)
     ·rw [if_neg (ne_true_of_eq_false f10)] at h
      simp -implicitDefEqProofs only [go_sem, seval, f3, f4, f6, f8, f10]
      obtain rfl := Option.some.inj h
      refine X_ret ?_
      simp -implicitDefEqProofs only [go_sem, seval, f3, f4, f6, f8, f10]
      exact Rt.mv0 (BaseR.refl hob) (by simp) (VM.self (by simp))
     ·rw [if_pos f10] at h
      obtain ⟨x6, f11, h⟩ := bindE h
      simp -implicitDefEqProofs only [go_sem, seval, f3, f4, f6, f8, f10]
      refine callV_eq (text_In_ok γ _ (by simp -implicitDefEqProofs only [go_sem, seval, f3, f4, f6, f8, f10]; try rfl) (by simp -implicitDefEqProofs only [go_sem, seval, f3, f4, f6, f8, f10]; try rfl) (by simp -implicitDefEqProofs only [go_sem, seval, f3, f4, f6, f8, f10]; try rfl) f11) rfl rfl ?_
      simp -implicitDefEqProofs only [go_sem, seval, f3, f4, f6, f8, f10]
      obtain rfl := Option.some.inj h
      refine X_ret ?_
      simp -implicitDefEqProofs only [go_sem, seval, f3, f4, f6, f8, f10]
      exact Rt.mv0 (BaseR.refl hob) (by simp) (VM.self (by simp))
end Go.Pf
end
section
set_option maxRecDepth 100000
namespace Go.Pf
open Go Go.Ab Go.Pp Go.Proofs Go.Proofs.S19
attribute [local go_sem] Lxτ Lxγ gam0 Int.toNat_natCast tau3 eI eB eS e_Loc e_Mins e_Text e_text_room e_text_reader e_portolanref19_reader
set_option maxHeartbeats 1000000 in
theorem portolanref03_Parts_ok (γ : GT) (ob : OT) {a0 : Int} {r : ByteArray} (h : portolanref03_Parts a0 = some r) :
  Valid (Lx γ) 33 [vint .i64 a0] ob (vstr r) ob := by
 refine valid_X (lx_ok γ) (fn := Tryd.f33) (rs := [.tmp 2]) Tryd.func33 (by kernel_rfl) rfl rfl Tryd.ntmps33 rfl (by simp) fun hb hob => ?_
 rw [portolanref03_Parts] at h
 refine X_seq ?_
 refine X_reg (lx_ok γ) ?_
 simp -implicitDefEqProofs only [go_sem, seval]
 refine X_seq ?_
 refine X_seq ?_
 refine X_reg (lx_ok γ) ?_
 simp -implicitDefEqProofs only [go_sem, seval]
 refine X_block ?_
 refine X_seq ?_
 refine X_reg (lx_ok γ) ?_
 simp -implicitDefEqProofs only [go_sem, seval]
 cases f1 : (a0 == 1)
 ·rw [if_neg (ne_true_of_eq_false f1)] at h
  refine X_cond (lx_ok γ) ?_
  simp -implicitDefEqProofs only [go_sem, seval, f1]
  refine X_seq ?_
  refine X_jq (J := fun as1 ob1 => ∃ (x3 : Bool), portolanref03_Parts.j1 a0 x3 = some r ∧ [(3, vint .i64 a0), (6, vbool x3)] = as1 ∧ ob = ob1) ?_ ?_
  ·rintro as1 ob1 ⟨x3, h, rfl, rfl⟩
   rw [portolanref03_Parts.j1] at h
   simp -implicitDefEqProofs only [go_sem, seval, f1]
   cases f2 : x3
   ·rw [if_neg (ne_true_of_eq_false f2)] at h
    refine X_cond (lx_ok γ) ?_
    simp -implicitDefEqProofs only [go_sem, seval, f1, f2]
    refine X_seq ?_
    refine X_jq (J := fun as1 ob1 => ∃ (x8 : Bool), portolanref03_Parts.j2 a0 x8 = some r ∧ [(3, vint .i64 a0), (10, vbool x8)] = as1 ∧ ob = ob1) ?_ ?_
    ·rintro as1 ob1 ⟨x8, h, rfl, rfl⟩
     rw [portolanref03_Parts.j2] at h
     simp -implicitDefEqProofs only [go_sem, seval, f1, f2]
     cases f3 : x8
     ·rw [if_neg (ne_true_of_eq_false f3)] at h
      refine X_cond (lx_ok γ) ?_
      simp -implicitDefEqProofs only [go_sem, seval, f1, f2, f3]
      refine X_seq ?_
      refine X_reg (lx_ok γ) ?_
      simp -implicitDefEqProofs only [go_sem, seval, f1, f2, f3]
      cases f4 : (a0 == 7)
      ·rw [if_neg (ne_true_of_eq_false f4)] at h
       refine X_cond (lx_ok γ) ?_
       simp -implicitDefEqProofs only [go_sem, seval, f1, f2, f3, f4]
       refine X_seq ?_
       refine X_reg (lx_ok γ) ?_
       simp -implicitDefEqProofs only [go_sem, seval, f1, f2, f3, f4]
       cases f5 : (a0 == 10)
       ·rw [if_neg (ne_true_of_eq_false f5)] at h
        refine X_cond (lx_ok γ) ?_
        simp -implicitDefEqProofs only [go_sem, seval, f1, f2, f3, f4, f5]
        refine X_seq ?_
        refine X_jq (J := fun as1 ob1 => ∃ (x11 : Bool), portolanref03_Parts.j3 a0 x11 = some r ∧ [(3, vint .i64 a0), (20, vbool x11)] = as1 ∧ ob = ob1) ?_ ?_
        ·rintro as1 ob1 ⟨x11, h, rfl, rfl⟩
         rw [portolanref03_Parts.j3] at h
         simp -implicitDefEqProofs only [go_sem, seval, f1, f2, f3, f4, f5]
         cases f6 : x11
         ·rw [if_neg (ne_true_of_eq_false f6)] at h
          refine X_cond (lx_ok γ) ?_
          simp -implicitDefEqProofs only [go_sem, seval, f1, f2, f3, f4, f5, f6]
          refine X_seq ?_
          refine X_jq (J := fun as1 ob1 => ∃ (x13 : Bool), portolanref03_Parts.j4 a0 x13 = some r ∧ [(3, vint .i64 a0), (24, vbool x13)] = as1 ∧ ob = ob1) ?_ ?_
          ·rintro as1 ob1 ⟨x13, h, rfl, rfl⟩
           rw [portolanref03_Parts.j4] at h
           simp -implicitDefEqProofs only [go_sem, seval, f1, f2, f3, f4, f5, f6]
           cases f7 : x13
           ·rw [if_neg (ne_true_of_eq_false f7)] at h
            refine X_cond (lx_ok γ) ?_
            simp -implicitDefEqProofs only [go_sem, seval, f1, f2, f3, f4, f5, f6, f7]
            refine X_seq ?_
            refine X_reg (lx_ok γ) ?_
            simp -implicitDefEqProofs only [go_sem, seval, f1, f2, f3, f4, f5, f6, f7]
            cases f8 : (a0 == 16)
            ·rw [if_neg (ne_true_of_eq_false f8)] at h
             refine X_cond (lx_ok γ) ?_
             simp -implicitDefEqProofs only [go_sem, seval, f1, f2, f3, f4, f5, f6, f7, f8]
             refine X_seq ?_
             refine X_reg (lx_ok γ) ?_
             simp -implicitDefEqProofs only [go_sem, seval, f1, f2, f3, f4, f5, f6, f7, f8]
             cases f9 : (a0 == 18)
             ·rw [if_neg (ne_true_of_eq_false f9)] at h
              refine X_cond (lx_ok γ) ?_
              simp -implicitDefEqProofs only [go_sem, seval, f1, f2, f3, f4, f5, f6, f7, f8, f9]
              refine X_seq ?_
              refine X_reg (lx_ok γ) ?_
              simp -implicitDefEqProofs only [go_sem, seval, f1, f2, f3, f4, f5, f6, f7, f8, f9]
              cases f10 : (a0 == 19)
              ·rw [if_neg (ne_true_of_eq_false f10)] at h
               refine X_cond (lx_ok γ) ?_
               simp -implicitDefEqProofs only [go_sem, seval, f1, f2, f3, f4, f5, f6, f7, f8, f9, f10]
               refine X_seq ?_
               refine X_jq (J := fun as1 ob1 => ∃ (x15 : Bool), portolanref03_Parts.j5 a0 x15 = some r ∧ [(3, vint .i64 a0), (33, vbool x15)] = as1 ∧ ob = ob1) ?_ ?_
               ·rintro as1 ob1 ⟨x15, h, rfl, rfl⟩
                rw [portolanref03_Parts.j5] at h
                simp -implicitDefEqProofs only [go_sem, seval, f1, f2, f3, f4, f5, f6, f7, f8, f9, f10]
                cases f11 : x15
                ·rw [if_neg (ne_true_of_eq_false f11)] at h
                 refine X_cond (lx_ok γ) ?_
                 simp -implicitDefEqProofs only [go_sem, seval, f1, f2, f3, f4, f5, f6, f7, f8, f9, f10, f11]
                 refine X_seq ?_
                 refine X_reg (lx_ok γ) ?_
                 simp -implicitDefEqProofs only [go_sem, seval, f1, f2, f3, f4, f5, f6, f7, f8, f9, f10, f11]
                 cases f12 : (a0 == 21)
                 ·rw [if_neg (ne_true_of_eq_false f12)] at h
                  refine X_cond (lx_ok γ) ?_
                  simp -implicitDefEqProofs only [go_sem, seval, f1, f2, f3, f4, f5, f6, f7, f8, f9, f10, f11, f12]
                  refine X_seq ?_
                  refine X_reg (lx_ok γ) ?_
                  simp -implicitDefEqProofs only [go_sem, seval, f1, f2, f3, f4, f5, f6, f7, f8, f9, f10, f11, f12]
                  cases f13 : (a0 == 22)
                  ·rw [if_neg (ne_true_of_eq_false f13)] at h
                   refine X_cond (lx_ok γ) ?_
                   simp -implicitDefEqProofs only [go_sem, seval, f1, f2, f3, f4, f5, f6, f7, f8, f9, f10, f11, f12, f13]
                   refine X_skip ?_
                   try simp -implicitDefEqProofs only [go_sem]
                   refine X_seq ?_
                   refine X_reg (lx_ok γ) ?_
                   simp -implicitDefEqProofs only [go_sem, seval, f1, f2, f3, f4, f5, f6, f7, f8, f9, f10, f11, f12, f13]
                   obtain rfl := Option.some.inj h
                   refine X_ret ?_
                   simp -implicitDefEqProofs only [go_sem, seval, f1, f2, f3, f4, f5, f6, f7, f8, f9, f10, f11, f12, f13]
                   exact Rt.mv1 (BaseR.refl hob) (by simp) (VM.self (by simp))
                  ·rw [if_pos f13] at h
                   refine X_cond (lx_ok γ) ?_
                   simp -implicitDefEqProofs only [go_sem, seval, f1, f2, f3, f4, f5, f6, f7, f8, f9, f10, f11, f12, f13]
                   refine X_seq ?_
                   refine X_reg (lx_ok γ) ?_
                   simp -implicitDefEqProofs only [go_sem, seval, f1, f2, f3, f4, f5, f6, f7, f8, f9, f10, f11, f12, f13]
                   obtain rfl := Option.some.inj h
                   refine X_ret ?_
                   simp -implicitDefEqProofs only [go_sem, seval, f1, f2, f3, f4, f5, f6, f7, f8, f9, f10, f11, f12, f13]
                   exact Rt.mv1 (BaseR.refl hob) (by simp) (VM.self (by simp))
                 ·rw [if_pos f12] at h
                  refine X_cond (lx_ok γ) ?_
                  simp -implicitDefEqProofs only [go_sem, seval, f1, f2, f3, f4, f5, f6, f7, f8, f9, f10, f11, f12]
                  refine X_seq ?_
                  refine X_reg (lx_ok γ) ?_
                  simp -implicitDefEqProofs only [go_sem, seval, f1, f2, f3, f4, f5, f6, f7, f8, f9, f10, f11, f12]
                  obtain rfl := Option.some.inj h
                  refine X_ret ?_
                  simp -implicitDefEqProofs only [go_sem, seval, f1, f2, f3, f4, f5, f6, f7, f8, f9, f10, f11, f12]
                  exact Rt.mv1 (BaseR.refl hob) (by simp) (VM.self (by simp))
                ·rw [if_pos f11] at h
                 refine X_cond (lx_ok γ) ?_
                 simp -implicitDefEqProofs only [go_sem, seval, f1, f2, f3, f4, f5, f6, f7, f8, f9, f10, f11]
                 refine X_seq ?_
                 refine X_reg (lx_ok γ) ?_
                 simp -implicitDefEqProofs only [go_sem, seval, f1, f2, f3, f4, f5, f6, f7, f8, f9, f10, f11]
                 obtain rfl := Option.some.inj h
                 refine X_ret ?_
                 simp -implicitDefEqProofs only [go_sem, seval, f1, f2, f3, f4, f5, f6, f7, f8, f9, f10, f11]
                 exact Rt.mv1 (BaseR.refl hob) (by simp) (VM.self (by simp))
               ·refine X_seq ?_
                refine X_reg (lx_ok γ) ?_
                simp -implicitDefEqProofs only [go_sem, seval, f1, f2, f3, f4, f5, f6, f7, f8, f9, f10]
                cases f14 : (a0 == 20)
                ·rw [if_neg (ne_true_of_eq_false f14)] at h
                 refine X_cond (lx_ok γ) ?_
                 simp -implicitDefEqProofs only [go_sem, seval, f1, f2, f3, f4, f5, f6, f7, f8, f9, f10, f14]
                 refine X_reg (lx_ok γ) ?_
                 simp -implicitDefEqProofs only [go_sem, seval, f1, f2, f3, f4, f5, f6, f7, f8, f9, f10, f14]
                 refine kJ_in ?_ ⟨(a0 == 23), h, rfl, rfl⟩
                 exact To.mv1 (BaseR.refl hob) (by simp) (by simp only [go_sem]; exact ⟨VM.self (by simp), VM.self (by simp)⟩)
                ·rw [if_pos f14] at h
                 refine X_cond (lx_ok γ) ?_
                 simp -implicitDefEqProofs only [go_sem, seval, f1, f2, f3, f4, f5, f6, f7, f8, f9, f10, f14]
                 refine X_skip ?_
                 try simp -implicitDefEqProofs only [go_sem]
                 refine kJ_in ?_ ⟨true, h, rfl, rfl⟩
                 exact To.mv1 (BaseR.refl hob) (by simp) (by simp only [go_sem]; exact ⟨VM.self (by simp), VM.self (by simp)⟩)
              ·rw [if_pos f10] at h
               refine X_cond (lx_ok γ) ?_
               simp -implicitDefEqProofs only [go_sem, seval, f1, f2, f3, f4, f5, f6, f7, f8, f9, f10]
               refine X_seq ?_
               refine X_reg (lx_ok γ) ?_
               simp -implicitDefEqProofs only [go_sem, seval, f1, f2, f3, f4, f5, f6, f7, f8, f9, f10]
               obtain rfl := Option.some.inj h
               refine X_ret ?_
               simp -implicitDefEqProofs only [go_sem, seval, f1, f2, f3, f4, f5, f6, f7, f8, f9, f10]
               exact Rt.mv1 (BaseR.refl hob) (by simp) (VM.self (by simp))
             ·rw [if_pos f9] at h
              refine X_cond (lx_ok γ) ?_
              simp -implicitDefEqProofs only [go_sem, seval, f1, f2, f3, f4, f5, f6, f7, f8, f9]
              refine X_seq ?_
              refine X_reg (lx_ok γ) ?_
              simp -implicitDefEqProofs only [go_sem, seval, f1, f2, f3, f4, f5, f6, f7, f8, f9]
              obtain rfl := Option.some.inj h
              refine X_ret ?_
              simp -implicitDefEqProofs only [go_sem, seval, f1, f2, f3, f4, f5, f6, f7, f8, f9]
              exact Rt.mv1 (BaseR.refl hob) (by simp) (VM.self (by simp))
            ·rw [if_pos f8] at h
             refine X_cond (lx_ok γ) ?_
             simp -implicitDefEqProofs only [go_sem, seval, f1, f2, f3, f4, f5, f6, f7, f8]
             refine X_seq ?_
             refine X_reg (lx_ok γ) ?_
             simp -implicitDefEqProofs only [go_sem, seval, f1, f2, f3, f4, f5, f6, f7, f8]
             obtain rfl := Option.some.inj h
             refine X_ret ?_
             simp -implicitDefEqProofs only [go_sem, seval, f1, f2, f3, f4, f5, f6, f7, f8]
             exact Rt.mv1 (BaseR.refl hob) (by simp) (VM.self (by simp))
           ·rw [if_pos f7] at h
            refine X_cond (lx_ok γ) ?_
            simp -implicitDefEqProofs only [go_sem, seval, f1, f2, f3, f4, f5, f6, f7]
            refine X_seq ?_
            refine X_reg (lx_ok γ) ?_
            simp -implicitDefEqProofs only [go_sem, seval, f1, f2, f3, f4, f5, f6, f7]
            obtain rfl := Option.some.inj h
            refine X_ret ?_
            simp -implicitDefEqProofs only [go_sem, seval, f1, f2, f3, f4, f5, f6, f7]
            exact Rt.mv1 (BaseR.refl hob) (by simp) (VM.self (by simp))
          ·refine X_seq ?_
           refine X_reg (lx_ok γ) ?_
           simp -implicitDefEqProofs only [go_sem, seval, f1, f2, f3, f4, f5, f6]
           cases f15 : (a0 == 12)
           ·rw [if_neg (ne_true_of_eq_false f15)] at h
            refine X_cond (lx_ok γ) ?_
            simp -implicitDefEqProofs only [go_sem, seval, f1, f2, f3, f4, f5, f6, f15]
            refine X_reg (lx_ok γ) ?_
            simp -implicitDefEqProofs only [go_sem, seval, f1, f2, f3, f4, f5, f6, f15]
            refine kJ_in ?_ ⟨(a0 == 14), h, rfl, rfl⟩
            exact To.mv1 (BaseR.refl hob) (by simp) (by simp only [go_sem]; exact ⟨VM.self (by simp), VM.self (by simp)⟩)
           ·rw [if_pos f15] at h
            refine X_cond (lx_ok γ) ?_
            simp -implicitDefEqProofs only [go_sem, seval, f1, f2, f3, f4, f5, f6, f15]
            refine X_skip ?_
            try simp -implicitDefEqProofs only [go_sem]
            refine kJ_in ?_ ⟨true, h, rfl, rfl⟩
            exact To.mv1 (BaseR.refl hob) (by simp) (by simp only [go_sem]; exact ⟨VM.self (by simp), VM.self (by simp)⟩)
         ·rw [if_pos f6] at h
          refine X_cond (lx_ok γ) ?_
          simp -implicitDefEqProofs only [go_sem, seval, f1, f2, f3, f4, f5, f6]
          refine X_seq ?_
          refine X_reg (lx_ok γ) ?_
          simp -implicitDefEqProofs only [go_sem, seval, f1, f2, f3, f4, f5, f6]
          obtain rfl := Option.some.inj h
          refine X_ret ?_
          simp -implicitDefEqProofs only [go_sem, seval, f1, f2, f3, f4, f5, f6]
          exact Rt.mv1 (BaseR.refl hob) (by simp) (VM.self (by simp))
        ·refine X_seq ?_
         refine X_reg (lx_ok γ) ?_
         simp -implicitDefEqProofs only [go_sem, seval, f1, f2, f3, f4, f5]
         cases f16 : (a0 == 11)
         ·rw [if_neg (ne_true_of_eq_false f16)] at h
          refine X_cond (lx_ok γ) ?_
          simp -implicitDefEqProofs only [go_sem, seval, f1, f2, f3, f4, f5, f16]
          refine X_seq ?_
          refine X_reg (lx_ok γ) ?_
          simp -implicitDefEqProofs only [go_sem, seval, f1, f2, f3, f4, f5, f16]
          cases f17 : (a0 == 13)
          ·rw [if_neg (ne_true_of_eq_false f17)] at h
           refine X_cond (lx_ok γ) ?_
           simp -implicitDefEqProofs only [go_sem, seval, f1, f2, f3, f4, f5, f16, f17]
           refine X_reg (lx_ok γ) ?_
           simp -implicitDefEqProofs only [go_sem, seval, f1, f2, f3, f4, f5, f16, f17]
           refine kJ_in ?_ ⟨(a0 == 15), h, rfl, rfl⟩
           exact To.mv1 (BaseR.refl hob) (by simp) (by simp only [go_sem]; exact ⟨VM.self (by simp), VM.self (by simp)⟩)
          ·rw [if_pos f17] at h
           refine X_cond (lx_ok γ) ?_
           simp -implicitDefEqProofs only [go_sem, seval, f1, f2, f3, f4, f5, f16, f17]
           refine X_skip ?_
           try simp -implicitDefEqProofs only [go_sem]
           refine kJ_in ?_ ⟨true, h, rfl, rfl⟩
           exact To.mv1 (BaseR.refl hob) (by simp) (by simp only [go_sem]; exact ⟨VM.self (by simp), VM.self (by simp)⟩)
         ·rw [if_pos f16] at h
          refine X_cond (lx_ok γ) ?_
          simp -implicitDefEqProofs only [go_sem, seval, f1, f2, f3, f4, f5, f16]
          refine X_skip ?_
          try simp -implicitDefEqProofs only [go_sem]
          refine kJ_in ?_ ⟨true, h, rfl, rfl⟩
          exact To.mv1 (BaseR.refl hob) (by simp) (by simp only [go_sem]; exact ⟨VM.self (by simp), VM.self (by simp)⟩)
       ·rw [if_pos f5] at h
        refine X_cond (lx_ok γ) ?_
        simp -implicitDefEqProofs only [go_sem, seval, f1, f2, f3, f4, f5]
        refine X_seq ?_
        refine X_reg (lx_ok γ) ?_
        simp -implicitDefEqProofs only [go_sem, seval, f1, f2, f3, f4, f5]
        obtain rfl := Option.some.inj h
        refine X_ret ?_
        simp -implicitDefEqProofs only [go_sem, seval, f1, f2, f3, f4, f5]
        exact Rt.mv1 (BaseR.refl hob) (by simp) (VM.self (by simp))
      ·rw [if_pos f4] at h
       refine X_cond (lx_ok γ) ?_
       simp -implicitDefEqProofs only [go_sem, seval, f1, f2, f3, f4]
       refine X_seq ?_
       refine X_reg (lx_ok γ) ?_
       simp -implicitDefEqProofs only [go_sem, seval, f1, f2, f3, f4]
       obtain rfl := Option.some.inj h
       refine X_ret ?_
       simp -implicitDefEqProofs only [go_sem, seval, f1, f2, f3, f4]
       exact Rt.mv1 (BaseR.refl hob) (by simp) (VM.self (by simp))
     ·rw [if_pos f3] at h
      refine X_cond (lx_ok γ) ?_
      simp -implicitDefEqProofs only [go_sem, seval, f1, f2, f3]
      refine X_seq ?_
      refine X_reg (lx_ok γ) ?_
      simp -implicitDefEqProofs only [go_sem, seval, f1, f2, f3]
      obtain rfl := Option.some.inj h
      refine X_ret ?_
      simp -implicitDefEqProofs only [go_sem, seval, f1, f2, f3]
      exact Rt.mv1 (BaseR.refl hob) (by simp) (VM.self (by simp))
    ·refine X_seq ?_
     refine X_reg (lx_ok γ) ?_
     simp -implicitDefEqProofs only [go_sem, seval, f1, f2]
     cases f18 : (a0 == 3)
     ·rw [if_neg (ne_true_of_eq_false f18)] at h
      refine X_cond (lx_ok γ) ?_
      simp -implicitDefEqProofs only [go_sem, seval, f1, f2, f18]
      refine X_seq ?_
      refine X_reg (lx_ok γ) ?_
      simp -implicitDefEqProofs only [go_sem, seval, f1, f2, f18]
      cases f19 : (a0 == 4)
      ·rw [if_neg (ne_true_of_eq_false f19)] at h
       refine X_cond (lx_ok γ) ?_
       simp -implicitDefEqProofs only [go_sem, seval, f1, f2, f18, f19]
       refine X_seq ?_
       refine X_reg (lx_ok γ) ?_
       simp -implicitDefEqProofs only [go_sem, seval, f1, f2, f18, f19]
       cases f20 : (a0 == 5)
       ·rw [if_neg (ne_true_of_eq_false f20)] at h
        refine X_cond (lx_ok γ) ?_
        simp -implicitDefEqProofs only [go_sem, seval, f1, f2, f18, f19, f20]
        refine X_seq ?_
        refine X_reg (lx_ok γ) ?_
        simp -implicitDefEqProofs only [go_sem, seval, f1, f2, f18, f19, f20]
        cases f21 : (a0 == 6)
        ·rw [if_neg (ne_true_of_eq_false f21)] at h
         refine X_cond (lx_ok γ) ?_
         simp -implicitDefEqProofs only [go_sem, seval, f1, f2, f18, f19, f20, f21]
         refine X_reg (lx_ok γ) ?_
         simp -implicitDefEqProofs only [go_sem, seval, f1, f2, f18, f19, f20, f21]
         refine kJ_in ?_ ⟨(a0 == 9), h, rfl, rfl⟩
         exact To.mv1 (BaseR.refl hob) (by simp) (by simp only [go_sem]; exact ⟨VM.self (by simp), VM.self (by simp)⟩)
        ·rw [if_pos f21] at h
         refine X_cond (lx_ok γ) ?_
         simp -implicitDefEqProofs only [go_sem, seval, f1, f2, f18, f19, f20, f21]
         refine X_skip ?_
         try simp -implicitDefEqProofs only [go_sem]
         refine kJ_in ?_ ⟨true, h, rfl, rfl⟩
         exact To.mv1 (BaseR.refl hob) (by simp) (by simp only [go_sem]; exact ⟨VM.self (by simp), VM.self (by simp)⟩)
       ·rw [if_pos f20] at h
        refine X_cond (lx_ok γ) ?_
        simp -implicitDefEqProofs only [go_sem, seval, f1, f2, f18, f19, f20]
        refine X_skip ?_
        try simp -implicitDefEqProofs only [go_sem]
        refine kJ_in ?_ ⟨true, h, rfl, rfl⟩
        exact To.mv1 (BaseR.refl hob) (by simp) (by simp only [go_sem]; exact ⟨VM.self (by simp), VM.self (by simp)⟩)
      ·rw [if_pos f19] at h
       refine X_cond (lx_ok γ) ?_
       simp -implicitDefEqProofs only [go_sem, seval, f1, f2, f18, f19]
       refine X_skip ?_
       try simp -implicitDefEqProofs only [go_sem]
       refine kJ_in ?_ ⟨true, h, rfl, rfl⟩
       exact To.mv1 (BaseR.refl hob) (by simp) (by simp only [go_sem]; exact ⟨VM.self (by simp), VM.self (by simp)⟩)
     ·rw [if_pos f18] at h
      refine X_cond (lx_ok γ) ?_
      simp -implicitDefEqProofs only [go_sem, seval, f1, f2, f18]
      refine X_skip ?_
      try simp -implicitDefEqProofs only [go_sem]
      refine kJ_in ?_ ⟨true, h, rfl, rfl⟩
      exact To.mv1 (BaseR.refl hob) (by simp) (by simp only [go_sem]; exact ⟨VM.self (by simp), VM.self (by simp)⟩)
   ·rw [if_pos f2] at h
    refine X_cond (lx_ok γ) ?_
    simp -implicitDefEqProofs only [go_sem, seval, f1, f2]
    refine X_seq ?_
    refine X_reg (lx_ok γ) ?_
    simp -implicitDefEqProofs only [go_sem, seval, f1, f2]
    obtain rfl := Option.some.inj h
    refine X_ret ?_
    simp -implicitDefEqProofs only [go_sem, seval, f1, f2]
    exact Rt.mv1 (BaseR.refl hob) (by simp) (VM.self (by simp))
  ·refine X_seq ?_
   refine X_reg (lx_ok γ) ?_
   simp -implicitDefEqProofs only [go_sem, seval, f1]
   cases f22 : (a0 == 2)
   ·rw [if_neg (ne_true_of_eq_false f22)] at h
    refine X_cond (lx_ok γ) ?_
    simp -implicitDefEqProofs only [go_sem, seval, f1, f22]
    refine X_seq ?_
    refine X_reg (lx_ok γ) ?_
    simp -implicitDefEqProofs only [go_sem, seval, f1, f22]
    cases f23 : (a0 == 8)
    ·rw [if_neg (ne_true_of_eq_false f23)] at h
     refine X_cond (lx_ok γ) ?_
     simp -implicitDefEqProofs only [go_sem, seval, f1, f22, f23]
     refine X_reg (lx_ok γ) ?_
     simp -implicitDefEqProofs only [go_sem, seval, f1, f22, f23]
     refine kJ_in ?_ ⟨(a0 == 17), h, rfl, rfl⟩
     exact To.mv1 (BaseR.refl hob) (by simp) (by simp only [go_sem]; exact ⟨VM.self (by simp), VM.self (by simp)⟩)
    ·rw [if_pos f23] at h
     refine X_cond (lx_ok γ) ?_
     simp -implicitDefEqProofs only [go_sem, seval, f1, f22, f23]
     refine X_skip ?_
     try simp -implicitDefEqProofs only [go_sem]
     refine kJ_in ?_ ⟨true, h, rfl, rfl⟩
     exact To.mv1 (BaseR.refl hob) (by simp) (by simp only [go_sem]; exact ⟨VM.self (by simp), VM.self (by simp)⟩)
   ·rw [if_pos f22] at h
    refine X_cond (lx_ok γ) ?_
    simp -implicitDefEqProofs only [go_sem, seval, f1, f22]
    refine X_skip ?_
    try simp -implicitDefEqProofs only [go_sem]
    refine kJ_in ?_ ⟨true, h, rfl, rfl⟩
    exact To.mv1 (BaseR.refl hob) (by simp) (by simp only [go_sem]; exact ⟨VM.self (by simp), VM.self (by simp)⟩)
 ·rw [if_pos f1] at h
  refine X_cond (lx_ok γ) ?_
  simp -implicitDefEqProofs only [go_sem, seval, f1]
  refine X_seq ?_
  refine X_reg (lx_ok γ) ?_
  simp -implicitDefEqProofs only [go_sem, seval, f1]
  obtain rfl := Option.some.inj h
  refine X_ret ?_
  simp -implicitDefEqProofs only [go_sem, seval, f1]
  exact Rt.mv1 (BaseR.refl hob) (by simp) (VM.self (by simp))
end Go.Pf
end
section
set_option maxRecDepth 100000
namespace Go.Pf
open Go Go.Ab Go.Pp Go.Proofs Go.Proofs.S19
attribute [local go_sem] Lxτ Lxγ gam0 Int.toNat_natCast tau3 tau9 eI eB eS e_Loc e_Mins e_Text e_text_room e_text_reader e_portolanref19_reader
set_option maxHeartbeats 1000000 in
theorem portolanref19_Parts_ok (γ : GT) (ob : OT) {a0 : Int} {r : ByteArray × Bool} (h : portolanref19_Parts a0 = some r) :
  Valid (Lx γ) 13 [vint .i64 a0] ob (V.tup [vstr r.1, vbool r.2]) ob := by
 refine valid_X (lx_ok γ) (fn := Tryd.f13) (rs := [.tmp 2, .tmp 3]) Tryd.func13 (by kernel_rfl) rfl rfl Tryd.ntmps13 rfl (by simp) fun hb hob => ?_
 rw [portolanref19_Parts] at h
 refine X_seq ?_
 refine X_reg (lx_ok γ) ?_
 simp -implicitDefEqProofs only [go_sem, seval]
 refine X_seq ?_
 refine X_seq ?_
 refine X_reg (lx_ok γ) ?_
 simp -implicitDefEqProofs only [go_sem, seval]
 refine X_block ?_
 refine X_seq ?_
 refine X_reg (lx_ok γ) ?_
 simp -implicitDefEqProofs only [go_sem, seval]
 cases f1 : (a0 == 25)
 ·rw [if_neg (ne_true_of_eq_false f1)] at h
  refine X_cond (lx_ok γ) ?_
  simp -implicitDefEqProofs only [go_sem, seval, f1]
  refine X_seq ?_
  refine X_reg (lx_ok γ) ?_
  simp -implicitDefEqProofs only [go_sem, seval, f1]
  cases f2 : (a0 == 24)
  ·rw [if_neg (ne_true_of_eq_false f2)] at h
   refine X_cond (lx_ok γ) ?_
   simp -implicitDefEqProofs only [go_sem, seval, f1, f2]
   refine X_seq ?_
   refine X_reg (lx_ok γ) ?_
   simp -implicitDefEqProofs only [go_sem, seval, f1, f2]
   cases f3 : (a0 == 17)
   ·rw [if_neg (ne_true_of_eq_false f3)] at h
    refine X_cond (lx_ok γ) ?_
    simp -implicitDefEqProofs only [go_sem, seval, f1, f2, f3]
    refine X_seq ?_
    refine X_reg (lx_ok γ) ?_
    simp -implicitDefEqProofs only [go_sem, seval, f1, f2, f3]
    cases f4 : (a0 == 18)
    ·rw [if_neg (ne_true_of_eq_false f4)] at h
     refine X_cond (lx_ok γ) ?_
     simp -implicitDefEqProofs only [go_sem, seval, f1, f2, f3, f4]
     refine X_skip ?_
     try simp -implicitDefEqProofs only [go_sem]
     refine X_seq ?_
     refine X_reg (lx_ok γ) ?_
     obtain ⟨x1, f5, h⟩ := bindE h
     simp -implicitDefEqProofs only [go_sem, seval, f1, f2, f3, f4]
     refine callV_eq (portolanref03_Parts_ok γ _  f5) rfl rfl ?_
     simp -implicitDefEqProofs only [go_sem, seval, f1, f2, f3, f4]
     refine X_seq ?_
     refine X_reg (lx_ok γ) ?_
     simp -implicitDefEqProofs only [go_sem, seval, f1, f2, f3, f4]
     obtain rfl := Option.some.inj h
     refine X_ret ?_
     simp -implicitDefEqProofs only [go_sem, seval, f1, f2, f3, f4]
     exact Rt.mv1 (BaseR.refl hob) (by simp) (VM.tup ⟨VM.self (by simp), VM.self (by simp), trivial⟩)
    ·rw [if_pos f4] at h
     refine X_cond (lx_ok γ) ?_
     simp -implicitDefEqProofs only [go_sem, seval, f1, f2, f3, f4]
     refine X_seq ?_
     refine X_reg (lx_ok γ) ?_
     simp -implicitDefEqProofs only [go_sem, seval, f1, f2, f3, f4]
     obtain rfl := Option.some.inj h
     refine X_ret ?_
     simp -implicitDefEqProofs only [go_sem, seval, f1, f2, f3, f4]
     exact Rt.mv1 (BaseR.refl hob) (by simp) (VM.tup ⟨VM.self (by simp), VM.self (by simp), trivial⟩)
   ·rw [if_pos f3] at h
    refine X_cond (lx_ok γ) ?_
    simp -implicitDefEqProofs only [go_sem, seval, f1, f2, f3]
    refine X_seq ?_
    refine X_reg (lx_ok γ) ?_
    simp -implicitDefEqProofs only [go_sem, seval, f1, f2, f3]
    obtain rfl := Option.some.inj h
    refine X_ret ?_
    simp -implicitDefEqProofs only [go_sem, seval, f1, f2, f3]
    exact Rt.mv1 (BaseR.refl hob) (by simp) (VM.tup ⟨VM.self (by simp), VM.self (by simp), trivial⟩)
  ·rw [if_pos f2] at h
   refine X_cond (lx_ok γ) ?_
   simp -implicitDefEqProofs only [go_sem, seval, f1, f2]
   refine X_seq ?_
   refine X_reg (lx_ok γ) ?_
   simp -implicitDefEqProofs only [go_sem, seval, f1, f2]
   obtain rfl := Option.some.inj h
   refine X_ret ?_
   simp -implicitDefEqProofs only [go_sem, seval, f1, f2]
   exact Rt.mv1 (BaseR.refl hob) (by simp) (VM.tup ⟨VM.self (by simp), VM.self (by simp), trivial⟩)
 ·rw [if_pos f1] at h
  refine X_cond (lx_ok γ) ?_
  simp -implicitDefEqProofs only [go_sem, seval, f1]
  refine X_seq ?_
  refine X_reg (lx_ok γ) ?_
  simp -implicitDefEqProofs only [go_sem, seval, f1]
  obtain rfl := Option.some.inj h
  refine X_ret ?_
  simp -implicitDefEqProofs only [go_sem, seval, f1]
  exact Rt.mv1 (BaseR.refl hob) (by simp) (VM.tup ⟨VM.self (by simp), VM.self (by simp), trivial⟩)
end Go.Pf
end
section
set_option maxRecDepth 100000
namespace Go.Pf
open Go Go.Ab Go.Pp Go.Proofs Go.Proofs.S19
attribute [local go_sem] Lxτ Lxγ gam0 Int.toNat_natCast tau3 tau5 tau46 tau47 tau49 eI eB eS e_Loc e_Mins e_Text e_text_room e_text_reader e_portolanref19_reader
set_option maxHeartbeats 1000000 in
theorem portolanref19_loc_ok (γ : GT) (ob : OT) {a0 : Mins} {v0_11 : V} {a1 : Int} (hv0_11 : rdK (getO ob) 2 v0_11 = some (List.map e_Loc a0.Args)) {r : Loc} (h : portolanref19_loc a0 a1 = some r) :
  Valid (Lx γ) 31 [V.agg [vint .i64 a0.Op, vint .i64 a0.D.Kind, vint .i64 a0.D.N, vint .i64 a0.A.Kind, vint .i64 a0.A.N, vint .i64 a0.B.Kind, vint .i64 a0.B.N, vint .i64 a0.C.Kind, vint .i64 a0.C.N, vint .i64 a0.N, vint .i64 a0.M, v0_11], vint .u8 a1] ob (V.agg [vint .i64 r.Kind, vint .i64 r.N]) ob := by
 refine valid_X (lx_ok γ) (fn := Tryd.f31) (rs := [.cell 4 46]) Tryd.func31 (by kernel_rfl) rfl rfl Tryd.ntmps31 rfl (by simp) fun hb hob => ?_
 have hq := rd4 hv0_11
 rw [portolanref19_loc] at h
 refine X_seq ?_
 refine X_reg (lx_ok γ) ?_
 simp -implicitDefEqProofs only [go_sem, seval, hq]
 refine X_seq ?_
 refine X_seq ?_
 refine X_reg (lx_ok γ) ?_
 simp -implicitDefEqProofs only [go_sem, seval, hq]
 refine X_block ?_
 refine X_seq ?_
 refine X_reg (lx_ok γ) ?_
 simp -implicitDefEqProofs only [go_sem, seval, hq]
 cases f1 : (a1 == 68)
 ·rw [if_neg (ne_true_of_eq_false f1)] at h
  refine X_cond (lx_ok γ) ?_
  simp -implicitDefEqProofs only [go_sem, seval, f1, hq]
  refine X_seq ?_
  refine X_reg (lx_ok γ) ?_
  simp -implicitDefEqProofs only [go_sem, seval, f1, hq]
  cases f2 : (a1 == 65)
  ·rw [if_neg (ne_true_of_eq_false f2)] at h
   refine X_cond (lx_ok γ) ?_
   simp -implicitDefEqProofs only [go_sem, seval, f1, f2, hq]
   refine X_seq ?_
   refine X_reg (lx_ok γ) ?_
   simp -implicitDefEqProofs only [go_sem, seval, f1, f2, hq]
   cases f3 : (a1 == 66)
   ·rw [if_neg (ne_true_of_eq_false f3)] at h
    refine X_cond (lx_ok γ) ?_
    simp -implicitDefEqProofs only [go_sem, seval, f1, f2, f3, hq]
    refine X_skip ?_
    try simp -implicitDefEqProofs only [go_sem]
    refine X_seq ?_
    refine X_reg (lx_ok γ) ?_
    simp -implicitDefEqProofs only [go_sem, seval, f1, f2, f3, hq]
    obtain rfl := Option.some.inj h
    refine X_ret ?_
    simp -implicitDefEqProofs only [go_sem, seval, f1, f2, f3, hq]
    exact Rt.mv0 (BaseR.refl hob) (by simp) (VM.agg ⟨VM.self (by simp), VM.self (by simp), trivial⟩)
   ·rw [if_pos f3] at h
    refine X_cond (lx_ok γ) ?_
    simp -implicitDefEqProofs only [go_sem, seval, f1, f2, f3, hq]
    refine X_seq ?_
    refine X_reg (lx_ok γ) ?_
    simp -implicitDefEqProofs only [go_sem, seval, f1, f2, f3, hq]
    obtain rfl := Option.some.inj h
    refine X_ret ?_
    simp -implicitDefEqProofs only [go_sem, seval, f1, f2, f3, hq]
    exact Rt.mv0 (BaseR.refl hob) (by simp) (VM.agg ⟨VM.self (by simp), VM.self (by simp), trivial⟩)
  ·rw [if_pos f2] at h
   refine X_cond (lx_ok γ) ?_
   simp -implicitDefEqProofs only [go_sem, seval, f1, f2, hq]
   refine X_seq ?_
   refine X_reg (lx_ok γ) ?_
   simp -implicitDefEqProofs only [go_sem, seval, f1, f2, hq]
   obtain rfl := Option.some.inj h
   refine X_ret ?_
   simp -implicitDefEqProofs only [go_sem, seval, f1, f2, hq]
   exact Rt.mv0 (BaseR.refl hob) (by simp) (VM.agg ⟨VM.self (by simp), VM.self (by simp), trivial⟩)
 ·rw [if_pos f1] at h
  refine X_cond (lx_ok γ) ?_
  simp -implicitDefEqProofs only [go_sem, seval, f1, hq]
  refine X_seq ?_
  refine X_reg (lx_ok γ) ?_
  simp -implicitDefEqProofs only [go_sem, seval, f1, hq]
  obtain rfl := Option.some.inj h
  refine X_ret ?_
  simp -implicitDefEqProofs only [go_sem, seval, f1, hq]
  exact Rt.mv0 (BaseR.refl hob) (by simp) (VM.agg ⟨VM.self (by simp), VM.self (by simp), trivial⟩)
end Go.Pf
end
section
set_option maxRecDepth 100000
namespace Go.Pf
open Go Go.Ab Go.Pp Go.Proofs Go.Proofs.S19
attribute [local go_sem] Lxτ Lxγ gam0 Int.toNat_natCast tau3 tau5 tau9 eI eB eS e_Loc e_Mins e_Text e_text_room e_text_reader e_portolanref19_reader
set_option maxHeartbeats 1000000 in
theorem portolanref19_has_ok (γ : GT) (ob : OT) {a0 : ByteArray} {a1 : Int} {r : Bool} (h : portolanref19_has a0 a1 = some r) :
  Valid (Lx γ) 59 [vstr a0, vint .u8 a1] ob (vbool r) ob := by
 refine valid_X (lx_ok γ) (fn := Tryd.f59) (rs := [.tmp 4]) Tryd.func59 (by kernel_rfl) rfl rfl Tryd.ntmps59 rfl (by simp) fun hb hob => ?_
 rw [portolanref19_has] at h
 refine X_seq ?_
 refine X_reg (lx_ok γ) ?_
 simp -implicitDefEqProofs only [go_sem, seval]
 refine X_seq ?_
 refine X_seq ?_
 refine X_reg (lx_ok γ) ?_
 simp -implicitDefEqProofs only [go_sem, seval]
 refine X_jq (J := fun as1 ob1 => portolanref19_has.k1 = some r ∧ [] = as1 ∧ ob = ob1) ?_ ?_
 ·rintro as1 ob1 ⟨h, rfl, rfl⟩
  rw [portolanref19_has.k1] at h
  simp -implicitDefEqProofs only [go_sem, seval]
  refine X_seq ?_
  refine X_reg (lx_ok γ) ?_
  simp -implicitDefEqProofs only [go_sem, seval]
  obtain rfl := Option.some.inj h
  refine X_ret ?_
  simp -implicitDefEqProofs only [go_sem, seval]
  exact Rt.mv1 (BaseR.refl hob) (by simp) (VM.self (by simp))
 ·refine X_block ?_
  obtain ⟨lr1, hl1, hk1, hr1⟩ := aft2 h
  refine X_forN hl1 (fun (i1 : Nat) (s : Unit) as1 ob1 => [(0, vstr a0), (1, vint .u8 a1), (5, vint .i64 (i1 : Int))] = as1 ∧ ob = ob1) ⟨_, _, ?_, rfl, rfl⟩ ?_ ?_
  ·exact To.mv1 (BaseR.refl hob) (by simp) (by simp only [go_sem]; exact ⟨VM.self (by simp), VM.self (by simp), VM.eqv (by simp) (by simp)⟩)
  ·rintro i1 _ o1 hi1 hw1 h ho1 as1 ob1 ⟨rfl, rfl⟩
   rw [portolanref19_has.b1] at h
   refine X_seq ?_
   refine X_seq ?_
   refine X_reg (lx_ok γ) ?_
   simp -implicitDefEqProofs only [go_sem, seval, hi1]
   refine X_cond (lx_ok γ) ?_
   simp -implicitDefEqProofs only [go_sem, seval, hi1]
   refine X_skip ?_
   try simp -implicitDefEqProofs only [go_sem]
   refine X_seq ?_
   refine X_block ?_
   refine X_seq ?_
   refine X_reg (lx_ok γ) ?_
   obtain ⟨x2, f1, h⟩ := bindE h
   obtain ⟨f2, f3, f4, f5⟩ := ixS_some f1
   try simp only [Int.toNat_natCast, Int.reduceToNat] at f4
   replace f5 := f5.symm
   simp -implicitDefEqProofs only [go_sem, seval, hi1, f2, f4, f5]
   cases f6 : (x2 == a1)
   ·rw [if_neg (ne_true_of_eq_false f6)] at h
    refine X_cond (lx_ok γ) ?_
    simp -implicitDefEqProofs only [go_sem, seval, hi1, f6, f2, f4, f5]
    refine X_skip ?_
    try simp -implicitDefEqProofs only [go_sem]
    refine X_reg (lx_ok γ) ?_
    obtain rfl := Option.some.inj h
    simp -implicitDefEqProofs only [go_sem, seval, hi1, f6]
    refine kR_in rfl ?_ ⟨rfl, rfl⟩
    exact To.mv1 (BaseR.refl hob) (by simp) (by simp only [go_sem]; exact ⟨VM.self (by simp), VM.self (by simp), VM.eqv (by rw [hw1]) (by simp)⟩)
   ·rw [if_pos f6] at h
    refine X_cond (lx_ok γ) ?_
    simp -implicitDefEqProofs only [go_sem, seval, hi1, f6, f2, f4, f5]
    refine X_seq ?_
    refine X_reg (lx_ok γ) ?_
    simp -implicitDefEqProofs only [go_sem, seval, hi1, f6]
    obtain rfl := Option.some.inj h
    have h := hr1 _ (ho1 (fun _ hs => nomatch hs))
    obtain rfl := Option.some.inj h
    refine X_ret ?_
    simp -implicitDefEqProofs only [go_sem, seval, hi1, f6]
    exact Rt.mv1 (BaseR.refl hob) (by simp) (VM.self (by simp))
  ·rintro i1 _ hi1 hn1 as1 ob1 ⟨rfl, rfl⟩
   refine X_seq ?_
   refine X_seq ?_
   refine X_reg (lx_ok γ) ?_
   simp -implicitDefEqProofs only [go_sem, seval, hi1]
   refine X_cond (lx_ok γ) ?_
   simp -implicitDefEqProofs only [go_sem, seval, hi1]
   have h := hk1 _ (.inl hn1)
   refine X_exit ?_
   try simp -implicitDefEqProofs only [go_sem, ↓reduceIte, Nat.reduceEqDiff, reduceCtorEq]
   refine kJ_in ?_ ⟨h, rfl, rfl⟩
   exact To.mv1 (BaseR.refl hob) (by simp) trivial
end Go.Pf
end
section
set_option maxRecDepth 100000
namespace Go.Pf
open Go Go.Ab Go.Pp Go.Proofs Go.Proofs.S19
attribute [local go_sem] Lxτ Lxγ gam0 Int.toNat_natCast tau3 tau46 eI eB eS e_Loc e_Mins e_Text e_text_room e_text_reader e_portolanref19_reader
set_option maxHeartbeats 1000000 in
theorem portolanref19_in_ok (γ : GT) (ob : OT) {a0 : Loc} {a1 : Int} {r : Bool} (h : portolanref19_in a0 a1 = some r) :
  Valid (Lx γ) 60 [V.agg [vint .i64 a0.Kind, vint .i64 a0.N], vint .i64 a1] ob (vbool r) ob := by
 refine valid_X (lx_ok γ) (fn := Tryd.f60) (rs := [.tmp 4]) Tryd.func60 (by kernel_rfl) rfl rfl Tryd.ntmps60 rfl (by simp) fun hb hob => ?_
 rw [portolanref19_in] at h
 refine X_seq ?_
 refine X_reg (lx_ok γ) ?_
 simp -implicitDefEqProofs only [go_sem, seval]
 refine X_seq ?_
 refine X_reg (lx_ok γ) ?_
 cases f1 : (a0.Kind == 1)
 ·rw [if_neg (ne_true_of_eq_false f1)] at h
  cases f2 : (a0.Kind == 2)
  ·rw [if_neg (ne_true_of_eq_false f2)] at h
   simp -implicitDefEqProofs only [go_sem, seval, f1, f2]
   obtain rfl := Option.some.inj h
   refine X_ret ?_
   simp -implicitDefEqProofs only [go_sem, seval, f1, f2]
   exact Rt.mv0 (BaseR.refl hob) (by simp) (VM.self (by simp))
  ·rw [if_pos f2] at h
   cases f3 : decide (0 ≤ a0.N)
   ·rw [if_neg (ne_true_of_eq_false f3)] at h
    simp -implicitDefEqProofs only [go_sem, seval, f1, f2, f3]
    obtain rfl := Option.some.inj h
    refine X_ret ?_
    simp -implicitDefEqProofs only [go_sem, seval, f1, f2, f3]
    exact Rt.mv0 (BaseR.refl hob) (by simp) (VM.self (by simp))
   ·rw [if_pos f3] at h
    simp -implicitDefEqProofs only [go_sem, seval, f1, f2, f3]
    obtain rfl := Option.some.inj h
    refine X_ret ?_
    simp -implicitDefEqProofs only [go_sem, seval, f1, f2, f3]
    exact Rt.mv0 (BaseR.refl hob) (by simp) (VM.self (by simp))
 ·rw [if_pos f1] at h
  cases f4 : decide (0 ≤ a0.N)
  ·rw [if_neg (ne_true_of_eq_false f4)] at h
   cases f5 : (a0.Kind == 2)
   ·rw [if_neg (ne_true_of_eq_false f5)] at h
    simp -implicitDefEqProofs only [go_sem, seval, f1, f4, f5]
    obtain rfl := Option.some.inj h
    refine X_ret ?_
    simp -implicitDefEqProofs only [go_sem, seval, f1, f4, f5]
    exact Rt.mv0 (BaseR.refl hob) (by simp) (VM.self (by simp))
   ·rw [if_pos f5] at h
    simp -implicitDefEqProofs only [go_sem, seval, f1, f4, f5]
    obtain rfl := Option.some.inj h
    refine X_ret ?_
    simp -implicitDefEqProofs only [go_sem, seval, f1, f4, f5]
    exact Rt.mv0 (BaseR.refl hob) (by simp) (VM.self (by simp))
  ·rw [if_pos f4] at h
   cases f6 : decide (a0.N ≤ 31)
   ·rw [if_neg (ne_true_of_eq_false f6)] at h
    cases f7 : (a0.Kind == 2)
    ·rw [if_neg (ne_true_of_eq_false f7)] at h
     simp -implicitDefEqProofs only [go_sem, seval, f1, f4, f6, f7]
     obtain rfl := Option.some.inj h
     refine X_ret ?_
     simp -implicitDefEqProofs only [go_sem, seval, f1, f4, f6, f7]
     exact Rt.mv0 (BaseR.refl hob) (by simp) (VM.self (by simp))
    ·rw [if_pos f7] at h
     simp -implicitDefEqProofs only [go_sem, seval, f1, f4, f6, f7]
     obtain rfl := Option.some.inj h
     refine X_ret ?_
     simp -implicitDefEqProofs only [go_sem, seval, f1, f4, f6, f7]
     exact Rt.mv0 (BaseR.refl hob) (by simp) (VM.self (by simp))
   ·rw [if_pos f6] at h
    simp -implicitDefEqProofs only [go_sem, seval, f1, f4, f6]
    obtain rfl := Option.some.inj h
    refine X_ret ?_
    simp -implicitDefEqProofs only [go_sem, seval, f1, f4, f6]
    exact Rt.mv0 (BaseR.refl hob) (by simp) (VM.self (by simp))
end Go.Pf
end
section
set_option maxRecDepth 100000
namespace Go.Pf
open Go Go.Ab Go.Pp Go.Proofs Go.Proofs.S19
attribute [local go_sem] Lxτ Lxγ gam0 Int.toNat_natCast tau3 eI eB eS e_Loc e_Mins e_Text e_text_room e_text_reader e_portolanref19_reader
set_option maxHeartbeats 1000000 in
theorem portolanref19_within_ok (γ : GT) (ob : OT) {a0 : Int} {a1 : Int} {a2 : Int} {r : Bool} (h : portolanref19_within a0 a1 a2 = some r) :
  Valid (Lx γ) 76 [vint .i64 a0, vint .i64 a1, vint .i64 a2] ob (vbool r) ob := by
 refine valid_X (lx_ok γ) (fn := Tryd.f76) (rs := [.tmp 6]) Tryd.func76 (by kernel_rfl) rfl rfl Tryd.ntmps76 rfl (by simp) fun hb hob => ?_
 rw [portolanref19_within] at h
 refine X_seq ?_
 refine X_reg (lx_ok γ) ?_
 simp -implicitDefEqProofs only [go_sem, seval]
 refine X_seq ?_
 refine X_reg (lx_ok γ) ?_
 cases f1 : decide (a1 ≤ a0)
 ·rw [if_neg (ne_true_of_eq_false f1)] at h
  simp -implicitDefEqProofs only [go_sem, seval, f1]
  obtain rfl := Option.some.inj h
  refine X_ret ?_
  simp -implicitDefEqProofs only [go_sem, seval, f1]
  exact Rt.mv1 (BaseR.refl hob) (by simp) (VM.self (by simp))
 ·rw [if_pos f1] at h
  simp -implicitDefEqProofs only [go_sem, seval, f1]
  obtain rfl := Option.some.inj h
  refine X_ret ?_
  simp -implicitDefEqProofs only [go_sem, seval, f1]
  exact Rt.mv1 (BaseR.refl hob) (by simp) (VM.self (by simp))
end Go.Pf
end
section
set_option maxRecDepth 100000
namespace Go.Pf
open Go Go.Ab Go.Pp Go.Proofs Go.Proofs.S19
attribute [local go_sem] Lxτ Lxγ gam0 Int.toNat_natCast tau3 tau22 tau23 tau25 tau46 tau47 tau49 eI eB eS e_Loc e_Mins e_Text e_text_room e_text_reader e_portolanref19_reader
set_option maxHeartbeats 1000000 in
theorem portolanref19_numbers_ok (γ : GT) (ob : OT) {a0 : Text} {v0_0 : V} {v0_1 : V} {v0_2 : V} {a1 : Mins} {v1_11 : V} {a2 : Int} {a3 : Int} (hv0_0 : rdK (getO ob) 12 v0_0 = some (List.map e_Mins a0.Code)) (hv0_1 : rdK (getO ob) 1 v0_1 = some (List.map (eI .i64) a0.Starts)) (hv0_2 : rdK (getO ob) 1 v0_2 = some (List.map (eI .i64) a0.Slots)) (hv1_11 : rdK (getO ob) 2 v1_11 = some (List.map e_Loc a1.Args)) {r : Bool} (h : portolanref19_numbers a0 a1 a2 a3 = some r) :
  Valid (Lx γ) 61 [V.agg [v0_0, v0_1, v0_2], V.agg [vint .i64 a1.Op, vint .i64 a1.D.Kind, vint .i64 a1.D.N, vint .i64 a1.A.Kind, vint .i64 a1.A.N, vint .i64 a1.B.Kind, vint .i64 a1.B.N, vint .i64 a1.C.Kind, vint .i64 a1.C.N, vint .i64 a1.N, vint .i64 a1.M, v1_11], vint .i64 a2, vint .i64 a3] ob (vbool r) ob := by
 refine valid_X (lx_ok γ) (fn := Tryd.f61) (rs := [.tmp 8]) Tryd.func61 (by kernel_rfl) rfl rfl Tryd.ntmps61 rfl (by simp) fun hb hob => ?_
 have hq := And.intro (rd4 hv0_0) (And.intro (rd4 hv0_1) (And.intro (rd4 hv0_2) (rd4 hv1_11)))
 rw [portolanref19_numbers] at h
 refine X_seq ?_
 refine X_reg (lx_ok γ) ?_
 simp -implicitDefEqProofs only [go_sem, seval, hq]
 refine X_seq ?_
 refine X_seq ?_
 refine X_reg (lx_ok γ) ?_
 simp -implicitDefEqProofs only [go_sem, seval, hq]
 refine X_block ?_
 refine X_seq ?_
 refine X_reg (lx_ok γ) ?_
 simp -implicitDefEqProofs only [go_sem, seval, hq]
 cases f1 : (a1.Op == 21)
 ·rw [if_neg (ne_true_of_eq_false f1)] at h
  refine X_cond (lx_ok γ) ?_
  simp -implicitDefEqProofs only [go_sem, seval, f1, hq]
  refine X_seq ?_
  refine X_reg (lx_ok γ) ?_
  simp -implicitDefEqProofs only [go_sem, seval, f1, hq]
  cases f2 : (a1.Op == 22)
  ·rw [if_neg (ne_true_of_eq_false f2)] at h
   refine X_cond (lx_ok γ) ?_
   simp -implicitDefEqProofs only [go_sem, seval, f1, f2, hq]
   refine X_seq ?_
   refine X_reg (lx_ok γ) ?_
   simp -implicitDefEqProofs only [go_sem, seval, f1, f2, hq]
   cases f3 : (a1.Op == 19)
   ·rw [if_neg (ne_true_of_eq_false f3)] at h
    refine X_cond (lx_ok γ) ?_
    simp -implicitDefEqProofs only [go_sem, seval, f1, f2, f3, hq]
    refine X_seq ?_
    refine X_reg (lx_ok γ) ?_
    simp -implicitDefEqProofs only [go_sem, seval, f1, f2, f3, hq]
    cases f4 : (a1.Op == 10)
    ·rw [if_neg (ne_true_of_eq_false f4)] at h
     refine X_cond (lx_ok γ) ?_
     simp -implicitDefEqProofs only [go_sem, seval, f1, f2, f3, f4, hq]
     refine X_seq ?_
     refine X_jq (J := fun as1 ob1 => ∃ (x5 : Bool), portolanref19_numbers.j1 a1 x5 = some r ∧ [(5, V.ref ob.length 0), (10, vint .i64 a1.Op), (54, vbool x5)] = as1 ∧ ob ++ [some (O.box [vint .i64 a1.Op, vint .i64 a1.D.Kind, vint .i64 a1.D.N, vint .i64 a1.A.Kind, vint .i64 a1.A.N, vint .i64 a1.B.Kind, vint .i64 a1.B.N, vint .i64 a1.C.Kind, vint .i64 a1.C.N, vint .i64 a1.N, vint .i64 a1.M, v1_11])] = ob1) ?_ ?_
     ·rintro as1 ob1 ⟨x5, h, rfl, rfl⟩
      rw [portolanref19_numbers.j1] at h
      simp -implicitDefEqProofs only [go_sem, seval, f1, f2, f3, f4, hq]
      cases f5 : x5
      ·rw [if_neg (ne_true_of_eq_false f5)] at h
       refine X_cond (lx_ok γ) ?_
       simp -implicitDefEqProofs only [go_sem, seval, f1, f2, f3, f4, f5, hq]
       refine X_seq ?_
       refine X_reg (lx_ok γ) ?_
       simp -implicitDefEqProofs only [go_sem, seval, f1, f2, f3, f4, f5, hq]
       cases f6 : (a1.Op == 16)
       ·rw [if_neg (ne_true_of_eq_false f6)] at h
        refine X_cond (lx_ok γ) ?_
        simp -implicitDefEqProofs only [go_sem, seval, f1, f2, f3, f4, f5, f6, hq]
        refine X_seq ?_
        refine X_reg (lx_ok γ) ?_
        simp -implicitDefEqProofs only [go_sem, seval, f1, f2, f3, f4, f5, f6, hq]
        cases f7 : (a1.Op == 1)
        ·rw [if_neg (ne_true_of_eq_false f7)] at h
         refine X_cond (lx_ok γ) ?_
         simp -implicitDefEqProofs only [go_sem, seval, f1, f2, f3, f4, f5, f6, f7, hq]
         refine X_skip ?_
         try simp -implicitDefEqProofs only [go_sem]
         refine X_seq ?_
         refine X_reg (lx_ok γ) ?_
         simp -implicitDefEqProofs only [go_sem, seval, f1, f2, f3, f4, f5, f6, f7, hq]
         obtain rfl := Option.some.inj h
         refine X_ret ?_
         simp -implicitDefEqProofs only [go_sem, seval, f1, f2, f3, f4, f5, f6, f7, hq]
         exact Rt.mv0 (BaseR.refl hob) (by simp) (VM.self (by simp))
        ·rw [if_pos f7] at h
         refine X_cond (lx_ok γ) ?_
         simp -implicitDefEqProofs only [go_sem, seval, f1, f2, f3, f4, f5, f6, f7, hq]
         refine X_seq ?_
         refine X_reg (lx_ok γ) ?_
         obtain ⟨x6, f8, h⟩ := bindE h
         simp -implicitDefEqProofs only [go_sem, seval, f1, f2, f3, f4, f5, f6, f7, hq]
         refine callV_eq (portolanref19_within_ok γ _  f8) rfl rfl ?_
         simp -implicitDefEqProofs only [go_sem, seval, f1, f2, f3, f4, f5, f6, f7, hq]
         obtain rfl := Option.some.inj h
         refine X_ret ?_
         simp -implicitDefEqProofs only [go_sem, seval, f1, f2, f3, f4, f5, f6, f7, hq]
         exact Rt.mv0 (BaseR.refl hob) (by simp) (VM.self (by simp))
       ·rw [if_pos f6] at h
        refine X_cond (lx_ok γ) ?_
        simp -implicitDefEqProofs only [go_sem, seval, f1, f2, f3, f4, f5, f6, hq]
        refine X_seq ?_
        refine X_reg (lx_ok γ) ?_
        obtain ⟨x7, f9, h⟩ := bindE h
        simp -implicitDefEqProofs only [go_sem, seval, f1, f2, f3, f4, f5, f6, hq]
        refine callV_eq (portolanref19_within_ok γ _  f9) rfl rfl ?_
        simp -implicitDefEqProofs only [go_sem, seval, f1, f2, f3, f4, f5, f6, hq]
        obtain rfl := Option.some.inj h
        refine X_ret ?_
        simp -implicitDefEqProofs only [go_sem, seval, f1, f2, f3, f4, f5, f6, hq]
        exact Rt.mv0 (BaseR.refl hob) (by simp) (VM.self (by simp))
      ·rw [if_pos f5] at h
       refine X_cond (lx_ok γ) ?_
       simp -implicitDefEqProofs only [go_sem, seval, f1, f2, f3, f4, f5, hq]
       refine X_seq ?_
       refine X_reg (lx_ok γ) ?_
       obtain ⟨x8, f10, h⟩ := bindE h
       simp -implicitDefEqProofs only [go_sem, seval, f1, f2, f3, f4, f5, hq]
       refine callV_eq (portolanref19_within_ok γ _  f10) rfl rfl ?_
       simp -implicitDefEqProofs only [go_sem, seval, f1, f2, f3, f4, f5, hq]
       obtain rfl := Option.some.inj h
       refine X_ret ?_
       simp -implicitDefEqProofs only [go_sem, seval, f1, f2, f3, f4, f5, hq]
       exact Rt.mv0 (BaseR.refl hob) (by simp) (VM.self (by simp))
     ·refine X_seq ?_
      refine X_reg (lx_ok γ) ?_
      simp -implicitDefEqProofs only [go_sem, seval, f1, f2, f3, f4, hq]
      cases f11 : (a1.Op == 15)
      ·rw [if_neg (ne_true_of_eq_false f11)] at h
       refine X_cond (lx_ok γ) ?_
       simp -implicitDefEqProofs only [go_sem, seval, f1, f2, f3, f4, f11, hq]
       refine X_seq ?_
       refine X_reg (lx_ok γ) ?_
       simp -implicitDefEqProofs only [go_sem, seval, f1, f2, f3, f4, f11, hq]
       cases f12 : (a1.Op == 11)
       ·rw [if_neg (ne_true_of_eq_false f12)] at h
        refine X_cond (lx_ok γ) ?_
        simp -implicitDefEqProofs only [go_sem, seval, f1, f2, f3, f4, f11, f12, hq]
        refine X_seq ?_
        refine X_reg (lx_ok γ) ?_
        simp -implicitDefEqProofs only [go_sem, seval, f1, f2, f3, f4, f11, f12, hq]
        cases f13 : (a1.Op == 13)
        ·rw [if_neg (ne_true_of_eq_false f13)] at h
         refine X_cond (lx_ok γ) ?_
         simp -implicitDefEqProofs only [go_sem, seval, f1, f2, f3, f4, f11, f12, f13, hq]
         refine X_seq ?_
         refine X_reg (lx_ok γ) ?_
         simp -implicitDefEqProofs only [go_sem, seval, f1, f2, f3, f4, f11, f12, f13, hq]
         cases f14 : (a1.Op == 12)
         ·rw [if_neg (ne_true_of_eq_false f14)] at h
          refine X_cond (lx_ok γ) ?_
          simp -implicitDefEqProofs only [go_sem, seval, f1, f2, f3, f4, f11, f12, f13, f14, hq]
          refine X_reg (lx_ok γ) ?_
          simp -implicitDefEqProofs only [go_sem, seval, f1, f2, f3, f4, f11, f12, f13, f14, hq]
          refine kJ_in ?_ ⟨(a1.Op == 14), h, rfl, rfl⟩
          exact To.mv [(1, 0)] (BaseR.refl hob) (by simp) (by decide) (by simp only [go_sem]; exact ⟨VM.refA (j := 1) (t := 0) rfl, VM.self (by simp), VM.self (by simp)⟩) ⟨⟨_, rfl, OM.box _ _ ⟨VM.self (by simp), VM.self (by simp), VM.self (by simp), VM.self (by simp), VM.self (by simp), VM.self (by simp), VM.self (by simp), VM.self (by simp), VM.self (by simp), VM.self (by simp), VM.self (by simp), VM.self (by simpa using Bd.of_rdK hv1_11), trivial⟩⟩, trivial⟩
         ·rw [if_pos f14] at h
          refine X_cond (lx_ok γ) ?_
          simp -implicitDefEqProofs only [go_sem, seval, f1, f2, f3, f4, f11, f12, f13, f14, hq]
          refine X_skip ?_
          try simp -implicitDefEqProofs only [go_sem]
          refine kJ_in ?_ ⟨true, h, rfl, rfl⟩
          exact To.mv [(1, 0)] (BaseR.refl hob) (by simp) (by decide) (by simp only [go_sem]; exact ⟨VM.refA (j := 1) (t := 0) rfl, VM.self (by simp), VM.self (by simp)⟩) ⟨⟨_, rfl, OM.box _ _ ⟨VM.self (by simp), VM.self (by simp), VM.self (by simp), VM.self (by simp), VM.self (by simp), VM.self (by simp), VM.self (by simp), VM.self (by simp), VM.self (by simp), VM.self (by simp), VM.self (by simp), VM.self (by simpa using Bd.of_rdK hv1_11), trivial⟩⟩, trivial⟩
        ·rw [if_pos f13] at h
         refine X_cond (lx_ok γ) ?_
         simp -implicitDefEqProofs only [go_sem, seval, f1, f2, f3, f4, f11, f12, f13, hq]
         refine X_skip ?_
         try simp -implicitDefEqProofs only [go_sem]
         refine kJ_in ?_ ⟨true, h, rfl, rfl⟩
         exact To.mv [(1, 0)] (BaseR.refl hob) (by simp) (by decide) (by simp only [go_sem]; exact ⟨VM.refA (j := 1) (t := 0) rfl, VM.self (by simp), VM.self (by simp)⟩) ⟨⟨_, rfl, OM.box _ _ ⟨VM.self (by simp), VM.self (by simp), VM.self (by simp), VM.self (by simp), VM.self (by simp), VM.self (by simp), VM.self (by simp), VM.self (by simp), VM.self (by simp), VM.self (by simp), VM.self (by simp), VM.self (by simpa using Bd.of_rdK hv1_11), trivial⟩⟩, trivial⟩
       ·rw [if_pos f12] at h
        refine X_cond (lx_ok γ) ?_
        simp -implicitDefEqProofs only [go_sem, seval, f1, f2, f3, f4, f11, f12, hq]
        refine X_skip ?_
        try simp -implicitDefEqProofs only [go_sem]
        refine kJ_in ?_ ⟨true, h, rfl, rfl⟩
        exact To.mv [(1, 0)] (BaseR.refl hob) (by simp) (by decide) (by simp only [go_sem]; exact ⟨VM.refA (j := 1) (t := 0) rfl, VM.self (by simp), VM.self (by simp)⟩) ⟨⟨_, rfl, OM.box _ _ ⟨VM.self (by simp), VM.self (by simp), VM.self (by simp), VM.self (by simp), VM.self (by simp), VM.self (by simp), VM.self (by simp), VM.self (by simp), VM.self (by simp), VM.self (by simp), VM.self (by simp), VM.self (by simpa using Bd.of_rdK hv1_11), trivial⟩⟩, trivial⟩
      ·rw [if_pos f11] at h
       refine X_cond (lx_ok γ) ?_
       simp -implicitDefEqProofs only [go_sem, seval, f1, f2, f3, f4, f11, hq]
       refine X_skip ?_
       try simp -implicitDefEqProofs only [go_sem]
       refine kJ_in ?_ ⟨true, h, rfl, rfl⟩
       exact To.mv [(1, 0)] (BaseR.refl hob) (by simp) (by decide) (by simp only [go_sem]; exact ⟨VM.refA (j := 1) (t := 0) rfl, VM.self (by simp), VM.self (by simp)⟩) ⟨⟨_, rfl, OM.box _ _ ⟨VM.self (by simp), VM.self (by simp), VM.self (by simp), VM.self (by simp), VM.self (by simp), VM.self (by simp), VM.self (by simp), VM.self (by simp), VM.self (by simp), VM.self (by simp), VM.self (by simp), VM.self (by simpa using Bd.of_rdK hv1_11), trivial⟩⟩, trivial⟩
    ·rw [if_pos f4] at h
     refine X_cond (lx_ok γ) ?_
     simp -implicitDefEqProofs only [go_sem, seval, f1, f2, f3, f4, hq]
     refine X_seq ?_
     refine X_reg (lx_ok γ) ?_
     obtain ⟨x9, f15, h⟩ := bindE h
     simp -implicitDefEqProofs only [go_sem, seval, f1, f2, f3, f4, hq]
     refine callV_eq (portolanref19_within_ok γ _  f15) rfl rfl ?_
     cases f16 : x9
     ·rw [if_neg (ne_true_of_eq_false f16)] at h
      simp -implicitDefEqProofs only [go_sem, seval, f1, f2, f3, f4, f16, hq]
      obtain rfl := Option.some.inj h
      refine X_ret ?_
      simp -implicitDefEqProofs only [go_sem, seval, f1, f2, f3, f4, f16, hq]
      exact Rt.mv0 (BaseR.refl hob) (by simp) (VM.self (by simp))
     ·rw [if_pos f16] at h
      obtain ⟨x10, f17, h⟩ := bindE h
      simp -implicitDefEqProofs only [go_sem, seval, f1, f2, f3, f4, f16, hq]
      refine callV_eq (portolanref19_within_ok γ _  f17) rfl rfl ?_
      simp -implicitDefEqProofs only [go_sem, seval, f1, f2, f3, f4, f16, hq]
      obtain rfl := Option.some.inj h
      refine X_ret ?_
      simp -implicitDefEqProofs only [go_sem, seval, f1, f2, f3, f4, f16, hq]
      exact Rt.mv0 (BaseR.refl hob) (by simp) (VM.self (by simp))
   ·rw [if_pos f3] at h
    refine X_cond (lx_ok γ) ?_
    simp -implicitDefEqProofs only [go_sem, seval, f1, f2, f3, hq]
    refine X_seq ?_
    refine X_reg (lx_ok γ) ?_
    obtain ⟨x11, f18, h⟩ := bindE h
    simp -implicitDefEqProofs only [go_sem, seval, f1, f2, f3, hq]
    refine callV_eq (portolanref19_within_ok γ _  f18) rfl rfl ?_
    simp -implicitDefEqProofs only [go_sem, seval, f1, f2, f3, hq]
    obtain rfl := Option.some.inj h
    refine X_ret ?_
    simp -implicitDefEqProofs only [go_sem, seval, f1, f2, f3, hq]
    exact Rt.mv0 (BaseR.refl hob) (by simp) (VM.self (by simp))
  ·rw [if_pos f2] at h
   refine X_cond (lx_ok γ) ?_
   simp -implicitDefEqProofs only [go_sem, seval, f1, f2, hq]
   refine X_seq ?_
   refine X_reg (lx_ok γ) ?_
   obtain ⟨x12, f19, h⟩ := bindE h
   simp -implicitDefEqProofs only [go_sem, seval, f1, f2, hq]
   refine callV_eq (portolanref19_within_ok γ _  f19) rfl rfl ?_
   cases f20 : x12
   ·rw [if_neg (ne_true_of_eq_false f20)] at h
    simp -implicitDefEqProofs only [go_sem, seval, f1, f2, f20, hq]
    obtain rfl := Option.some.inj h
    refine X_ret ?_
    simp -implicitDefEqProofs only [go_sem, seval, f1, f2, f20, hq]
    exact Rt.mv0 (BaseR.refl hob) (by simp) (VM.self (by simp))
   ·rw [if_pos f20] at h
    obtain ⟨x13, f21, h⟩ := bindE h
    simp -implicitDefEqProofs only [go_sem, seval, f1, f2, f20, hq]
    refine callV_eq (portolanref19_within_ok γ _  f21) rfl rfl ?_
    simp -implicitDefEqProofs only [go_sem, seval, f1, f2, f20, hq]
    obtain rfl := Option.some.inj h
    refine X_ret ?_
    simp -implicitDefEqProofs only [go_sem, seval, f1, f2, f20, hq]
    exact Rt.mv0 (BaseR.refl hob) (by simp) (VM.self (by simp))
 ·rw [if_pos f1] at h
  refine X_cond (lx_ok γ) ?_
  simp -implicitDefEqProofs only [go_sem, seval, f1, hq]
  refine X_seq ?_
  refine X_reg (lx_ok γ) ?_
  obtain ⟨x14, f22, h⟩ := bindE h
  simp -implicitDefEqProofs only [go_sem, seval, f1, hq]
  refine callV_eq (portolanref19_within_ok γ _  f22) rfl rfl ?_
  simp -implicitDefEqProofs only [go_sem, seval, f1, hq]
  obtain rfl := Option.some.inj h
  refine X_ret ?_
  simp -implicitDefEqProofs only [go_sem, seval, f1, hq]
  exact Rt.mv0 (BaseR.refl hob) (by simp) (VM.self (by simp))
end Go.Pf
end
section
set_option maxRecDepth 100000
namespace Go.Pf
open Go Go.Ab Go.Pp Go.Proofs Go.Proofs.S19
attribute [local go_sem] Lxτ Lxγ gam0 Int.toNat_natCast tau3 tau4 tau5 tau9 tau22 tau23 tau25 tau46 tau47 tau49 eI eB eS e_Loc e_Mins e_Text e_text_room e_text_reader e_portolanref19_reader
set_option maxHeartbeats 1000000 in
theorem portolanref19_ins_ok (γ : GT) (ob : OT) {a0 : Text} {v0_0 : V} {v0_1 : V} {v0_2 : V} {a1 : Mins} {v1_11 : V} {a2 : Int} {a3 : Int} {a4 : Int} (hv0_0 : rdK (getO ob) 12 v0_0 = some (List.map e_Mins a0.Code)) (hv0_1 : rdK (getO ob) 1 v0_1 = some (List.map (eI .i64) a0.Starts)) (hv0_2 : rdK (getO ob) 1 v0_2 = some (List.map (eI .i64) a0.Slots)) (hv1_11 : rdK (getO ob) 2 v1_11 = some (List.map e_Loc a1.Args)) {r : Bool} (h : portolanref19_ins a0 a1 a2 a3 a4 = some r) :
  Valid (Lx γ) 38 [V.agg [v0_0, v0_1, v0_2], V.agg [vint .i64 a1.Op, vint .i64 a1.D.Kind, vint .i64 a1.D.N, vint .i64 a1.A.Kind, vint .i64 a1.A.N, vint .i64 a1.B.Kind, vint .i64 a1.B.N, vint .i64 a1.C.Kind, vint .i64 a1.C.N, vint .i64 a1.N, vint .i64 a1.M, v1_11], vint .i64 a2, vint .i64 a3, vint .i64 a4] ob (vbool r) ob := by
 refine valid_X (lx_ok γ) (fn := Tryd.f38) (rs := [.tmp 10]) Tryd.func38 (by kernel_rfl) rfl rfl Tryd.ntmps38 rfl (by simp) fun hb hob => ?_
 have hq := And.intro (rd4 hv0_0) (And.intro (rd4 hv0_1) (And.intro (rd4 hv0_2) (rd4 hv1_11)))
 rw [portolanref19_ins] at h
 refine X_seq ?_
 refine X_reg (lx_ok γ) ?_
 simp -implicitDefEqProofs only [go_sem, seval, hq]
 refine X_seq ?_
 refine X_reg (lx_ok γ) ?_
 obtain ⟨x1, f1, h⟩ := bindE h
 simp -implicitDefEqProofs only [go_sem, seval, hq]
 refine callV_eq (portolanref19_Parts_ok γ _  f1) rfl rfl ?_
 simp -implicitDefEqProofs only [go_sem, seval, hq]
 refine X_seq ?_
 refine X_seq ?_
 refine X_reg (lx_ok γ) ?_
 simp -implicitDefEqProofs only [go_sem, seval, hq]
 cases f2 : x1.2
 ·rw [if_neg (ne_true_of_eq_false f2)] at h
  refine X_cond (lx_ok γ) ?_
  simp -implicitDefEqProofs only [go_sem, seval, f2, hq]
  refine X_seq ?_
  refine X_reg (lx_ok γ) ?_
  simp -implicitDefEqProofs only [go_sem, seval, f2, hq]
  obtain rfl := Option.some.inj h
  refine X_ret ?_
  simp -implicitDefEqProofs only [go_sem, seval, f2, hq]
  exact Rt.mv0 (BaseR.refl hob) (by simp) (VM.self (by simp))
 ·rw [if_pos f2] at h
  refine X_cond (lx_ok γ) ?_
  simp -implicitDefEqProofs only [go_sem, seval, f2, hq]
  refine X_skip ?_
  try simp -implicitDefEqProofs only [go_sem]
  refine X_seq ?_
  refine X_reg (lx_ok γ) ?_
  simp -implicitDefEqProofs only [go_sem, seval, f2, hq]
  refine X_seq ?_
  refine X_seq ?_
  refine X_reg (lx_ok γ) ?_
  simp -implicitDefEqProofs only [go_sem, seval, f2, hq]
  refine X_jq (J := fun as1 ob1 => portolanref19_ins.k1 a0 a1 a2 a3 a4 x1 = some r ∧ [(2, vint .i64 a2), (3, vint .i64 a3), (4, vint .i64 a4), (5, V.ref ob.length 0), (6, V.ref (ob.length + 1) 0), (11, vstr x1.1)] = as1 ∧ ob ++ [some (O.box [v0_0, v0_1, v0_2]), some (O.box [vint .i64 a1.Op, vint .i64 a1.D.Kind, vint .i64 a1.D.N, vint .i64 a1.A.Kind, vint .i64 a1.A.N, vint .i64 a1.B.Kind, vint .i64 a1.B.N, vint .i64 a1.C.Kind, vint .i64 a1.C.N, vint .i64 a1.N, vint .i64 a1.M, v1_11])] = ob1) ?_ ?_
  ·rintro as1 ob1 ⟨h, rfl, rfl⟩
   rw [portolanref19_ins.k1] at h
   simp -implicitDefEqProofs only [go_sem, seval, f2, hq]
   refine X_seq ?_
   refine X_jq (J := fun as1 ob1 => portolanref19_ins.j1 a0 a1 a2 a3 a4 = some r ∧ [(2, vint .i64 a2), (3, vint .i64 a3), (4, vint .i64 a4), (5, V.ref ob.length 0), (6, V.ref (ob.length + 1) 0)] = as1 ∧ ob ++ [some (O.box [v0_0, v0_1, v0_2]), some (O.box [vint .i64 a1.Op, vint .i64 a1.D.Kind, vint .i64 a1.D.N, vint .i64 a1.A.Kind, vint .i64 a1.A.N, vint .i64 a1.B.Kind, vint .i64 a1.B.N, vint .i64 a1.C.Kind, vint .i64 a1.C.N, vint .i64 a1.N, vint .i64 a1.M, v1_11])] = ob1) ?_ ?_
   ·rintro as1 ob1 ⟨h, rfl, rfl⟩
    rw [portolanref19_ins.j1] at h
    simp -implicitDefEqProofs only [go_sem, seval, f2, hq]
    refine X_seq ?_
    refine X_seq ?_
    refine X_reg (lx_ok γ) ?_
    simp -implicitDefEqProofs only [go_sem, seval, f2, hq]
    refine X_jq (J := fun as1 ob1 => portolanref19_ins.k2 a0 a1 a2 a3 = some r ∧ [(2, vint .i64 a2), (3, vint .i64 a3), (5, V.ref ob.length 0), (6, V.ref (ob.length + 1) 0)] = as1 ∧ ob ++ [some (O.box [v0_0, v0_1, v0_2]), some (O.box [vint .i64 a1.Op, vint .i64 a1.D.Kind, vint .i64 a1.D.N, vint .i64 a1.A.Kind, vint .i64 a1.A.N, vint .i64 a1.B.Kind, vint .i64 a1.B.N, vint .i64 a1.C.Kind, vint .i64 a1.C.N, vint .i64 a1.N, vint .i64 a1.M, v1_11])] = ob1) ?_ ?_
    ·rintro as1 ob1 ⟨h, rfl, rfl⟩
     rw [portolanref19_ins.k2] at h
     simp -implicitDefEqProofs only [go_sem, seval, f2, hq]
     refine X_seq ?_
     refine X_reg (lx_ok γ) ?_
     obtain ⟨x4, f3, h⟩ := bindE h
     simp -implicitDefEqProofs only [go_sem, seval, f2, hq]
     refine callV_eq (portolanref19_numbers_ok γ _ (by first | exact rdK_app hv0_0 | exact hv0_0) (by first | exact rdK_app hv0_1 | exact hv0_1) (by first | exact rdK_app hv0_2 | exact hv0_2) (by first | exact rdK_app hv1_11 | exact hv1_11) f3) rfl rfl ?_
     simp -implicitDefEqProofs only [go_sem, seval, f2, hq]
     obtain rfl := Option.some.inj h
     refine X_ret ?_
     simp -implicitDefEqProofs only [go_sem, seval, f2, hq]
     exact Rt.mv0 (BaseR.refl hob) (by simp) (VM.self (by simp))
    ·refine X_block ?_
     obtain ⟨lr2, hl2, hk2, hr2⟩ := aft2 h
     refine X_forN hl2 (fun (i2 : Nat) (s : Unit) as1 ob1 => [(2, vint .i64 a2), (3, vint .i64 a3), (4, vint .i64 a4), (5, V.ref ob.length 0), (6, V.ref (ob.length + 1) 0), (16, vint .i64 (i2 : Int))] = as1 ∧ ob ++ [some (O.box [v0_0, v0_1, v0_2]), some (O.box [vint .i64 a1.Op, vint .i64 a1.D.Kind, vint .i64 a1.D.N, vint .i64 a1.A.Kind, vint .i64 a1.A.N, vint .i64 a1.B.Kind, vint .i64 a1.B.N, vint .i64 a1.C.Kind, vint .i64 a1.C.N, vint .i64 a1.N, vint .i64 a1.M, v1_11])] = ob1) ⟨_, _, ?_, rfl, rfl⟩ ?_ ?_
     ·exact To.mv [(0, 0), (1, 0)] (BaseR.refl hob) (by simp) (by decide) (by simp only [go_sem]; exact ⟨VM.self (by simp), VM.self (by simp), VM.self (by simp), VM.refA (j := 0) (t := 0) rfl, VM.refA (j := 1) (t := 1) rfl, VM.eqv (by simp) (by simp)⟩) ⟨⟨_, rfl, OM.box _ _ ⟨VM.self (by simpa using Bd.of_rdK hv0_0), VM.self (by simpa using Bd.of_rdK hv0_1), VM.self (by simpa using Bd.of_rdK hv0_2), trivial⟩⟩, ⟨_, rfl, OM.box _ _ ⟨VM.self (by simp), VM.self (by simp), VM.self (by simp), VM.self (by simp), VM.self (by simp), VM.self (by simp), VM.self (by simp), VM.self (by simp), VM.self (by simp), VM.self (by simp), VM.self (by simp), VM.self (by simpa using Bd.of_rdK hv1_11), trivial⟩⟩, trivial⟩
     ·rintro i2 _ o2 hi2 hw2 h ho2 as1 ob1 ⟨rfl, rfl⟩
      rw [portolanref19_ins.b2] at h
      refine X_seq ?_
      refine X_seq ?_
      refine X_reg (lx_ok γ) ?_
      simp -implicitDefEqProofs only [go_sem, seval, f2, hi2, hq]
      refine X_cond (lx_ok γ) ?_
      simp -implicitDefEqProofs only [go_sem, seval, f2, hi2, hq]
      refine X_skip ?_
      try simp -implicitDefEqProofs only [go_sem]
      refine X_seq ?_
      refine X_block ?_
      refine X_seq ?_
      refine X_reg (lx_ok γ) ?_
      obtain ⟨x5, f4, h⟩ := bindE h
      obtain ⟨f5, f6⟩ := ixL_nat f4
      have f7 : (0 : Int) ≤ (i2 : Int) := Int.natCast_nonneg _
      obtain ⟨x6, f8, h⟩ := bindE h
      simp -implicitDefEqProofs only [go_sem, seval, f2, hi2, hq, f5, f6, f7]
      refine callV_eq (portolanref19_in_ok γ _  f8) rfl rfl ?_
      simp -implicitDefEqProofs only [go_sem, seval, f2, hi2, hq, f5, f6, f7]
      cases f9 : x6
      ·rw [if_neg (ne_true_of_eq_false f9)] at h
       refine X_cond (lx_ok γ) ?_
       simp -implicitDefEqProofs only [go_sem, seval, f2, hi2, f9, hq, f5, f6, f7]
       refine X_seq ?_
       refine X_reg (lx_ok γ) ?_
       simp -implicitDefEqProofs only [go_sem, seval, f2, hi2, f9, hq]
       obtain rfl := Option.some.inj h
       have h := hr2 _ (ho2 (fun _ hs => nomatch hs))
       obtain rfl := Option.some.inj h
       refine X_ret ?_
       simp -implicitDefEqProofs only [go_sem, seval, f2, hi2, f9, hq]
       exact Rt.mv0 (BaseR.refl hob) (by simp) (VM.self (by simp))
      ·rw [if_pos f9] at h
       refine X_cond (lx_ok γ) ?_
       simp -implicitDefEqProofs only [go_sem, seval, f2, hi2, f9, hq, f5, f6, f7]
       refine X_skip ?_
       try simp -implicitDefEqProofs only [go_sem]
       refine X_reg (lx_ok γ) ?_
       obtain rfl := Option.some.inj h
       simp -implicitDefEqProofs only [go_sem, seval, f2, hi2, f9, hq]
       refine kR_in rfl ?_ ⟨rfl, rfl⟩
       exact To.mv [(0, 0), (1, 0)] (BaseR.refl hob) (by simp) (by decide) (by simp only [go_sem]; exact ⟨VM.self (by simp), VM.self (by simp), VM.self (by simp), VM.refA (j := 0) (t := 0) rfl, VM.refA (j := 1) (t := 1) rfl, VM.eqv (by rw [hw2]) (by simp)⟩) ⟨⟨_, rfl, OM.box _ _ ⟨VM.self (by simpa using Bd.of_rdK hv0_0), VM.self (by simpa using Bd.of_rdK hv0_1), VM.self (by simpa using Bd.of_rdK hv0_2), trivial⟩⟩, ⟨_, rfl, OM.box _ _ ⟨VM.self (by simp), VM.self (by simp), VM.self (by simp), VM.self (by simp), VM.self (by simp), VM.self (by simp), VM.self (by simp), VM.self (by simp), VM.self (by simp), VM.self (by simp), VM.self (by simp), VM.self (by simpa using Bd.of_rdK hv1_11), trivial⟩⟩, trivial⟩
     ·rintro i2 _ hi2 hn2 as1 ob1 ⟨rfl, rfl⟩
      refine X_seq ?_
      refine X_seq ?_
      refine X_reg (lx_ok γ) ?_
      simp -implicitDefEqProofs only [go_sem, seval, f2, hi2, hq]
      refine X_cond (lx_ok γ) ?_
      simp -implicitDefEqProofs only [go_sem, seval, f2, hi2, hq]
      have h := hk2 _ (.inl hn2)
      refine X_exit ?_
      try simp -implicitDefEqProofs only [go_sem, ↓reduceIte, Nat.reduceEqDiff, reduceCtorEq]
      refine kJ_in ?_ ⟨h, rfl, rfl⟩
      exact To.mv [(0, 0), (1, 0)] (BaseR.refl hob) (by simp) (by decide) (by simp only [go_sem]; exact ⟨VM.self (by simp), VM.self (by simp), VM.refA (j := 0) (t := 0) rfl, VM.refA (j := 1) (t := 1) rfl⟩) ⟨⟨_, rfl, OM.box _ _ ⟨VM.self (by simpa using Bd.of_rdK hv0_0), VM.self (by simpa using Bd.of_rdK hv0_1), VM.self (by simpa using Bd.of_rdK hv0_2), trivial⟩⟩, ⟨_, rfl, OM.box _ _ ⟨VM.self (by simp), VM.self (by simp), VM.self (by simp), VM.self (by simp), VM.self (by simp), VM.self (by simp), VM.self (by simp), VM.self (by simp), VM.self (by simp), VM.self (by simp), VM.self (by simp), VM.self (by simpa using Bd.of_rdK hv1_11), trivial⟩⟩, trivial⟩
   ·refine X_seq ?_
    refine X_reg (lx_ok γ) ?_
    obtain ⟨x7, f10, h⟩ := bindE h
    simp -implicitDefEqProofs only [go_sem, seval, f2, hq]
    refine callV_eq (portolanref19_has_ok γ _  f10) rfl rfl ?_
    cases f11 : x7
    ·rw [if_neg (ne_true_of_eq_false f11)] at h
     obtain ⟨x8, f12, h⟩ := bindE h
     simp -implicitDefEqProofs only [go_sem, seval, f2, f11, hq]
     refine callV_eq (portolanref19_has_ok γ _  f12) rfl rfl ?_
     cases f13 : x8
     ·rw [if_neg (ne_true_of_eq_false f13)] at h
      cases f14 : (a1.N != 0)
      ·rw [if_neg (ne_true_of_eq_false f14)] at h
       obtain ⟨x9, f15, h⟩ := bindE h
       simp -implicitDefEqProofs only [go_sem, seval, f2, f11, f13, f14, hq]
       refine callV_eq (portolanref19_has_ok γ _  f15) rfl rfl ?_
       cases f16 : x9
       ·rw [if_neg (ne_true_of_eq_false f16)] at h
        cases f17 : (a1.M != 0)
        ·rw [if_neg (ne_true_of_eq_false f17)] at h
         obtain ⟨x10, f18, h⟩ := bindE h
         simp -implicitDefEqProofs only [go_sem, seval, f2, f11, f13, f14, f16, f17, hq]
         refine callV_eq (portolanref19_has_ok γ _  f18) rfl rfl ?_
         cases f19 : x10
         ·rw [if_neg (ne_true_of_eq_false f19)] at h
          cases f20 : decide (0 < (List.length a1.Args : Int))
          ·rw [if_neg (ne_true_of_eq_false f20)] at h
           simp -implicitDefEqProofs only [go_sem, seval, f2, f11, f13, f14, f16, f17, f19, f20, hq]
           cases f21 : decide (4 < (List.length a1.Args : Int))
           ·rw [if_neg (ne_true_of_eq_false f21)] at h
            refine X_cond (lx_ok γ) ?_
            simp -implicitDefEqProofs only [go_sem, seval, f2, f11, f13, f14, f16, f17, f19, f20, f21, hq]
            refine X_skip ?_
            try simp -implicitDefEqProofs only [go_sem]
            refine kJ_in ?_ ⟨h, rfl, rfl⟩
            exact To.mv [(0, 0), (1, 0)] (BaseR.refl hob) (by simp) (by decide) (by simp only [go_sem]; exact ⟨VM.self (by simp), VM.self (by simp), VM.self (by simp), VM.refA (j := 0) (t := 0) rfl, VM.refA (j := 1) (t := 1) rfl⟩) ⟨⟨_, rfl, OM.box _ _ ⟨VM.self (by simpa using Bd.of_rdK hv0_0), VM.self (by simpa using Bd.of_rdK hv0_1), VM.self (by simpa using Bd.of_rdK hv0_2), trivial⟩⟩, ⟨_, rfl, OM.box _ _ ⟨VM.self (by simp), VM.self (by simp), VM.self (by simp), VM.self (by simp), VM.self (by simp), VM.self (by simp), VM.self (by simp), VM.self (by simp), VM.self (by simp), VM.self (by simp), VM.self (by simp), VM.self (by simpa using Bd.of_rdK hv1_11), trivial⟩⟩, trivial⟩
           ·rw [if_pos f21] at h
            refine X_cond (lx_ok γ) ?_
            simp -implicitDefEqProofs only [go_sem, seval, f2, f11, f13, f14, f16, f17, f19, f20, f21, hq]
            refine X_seq ?_
            refine X_reg (lx_ok γ) ?_
            simp -implicitDefEqProofs only [go_sem, seval, f2, f11, f13, f14, f16, f17, f19, f20, f21, hq]
            obtain rfl := Option.some.inj h
            refine X_ret ?_
            simp -implicitDefEqProofs only [go_sem, seval, f2, f11, f13, f14, f16, f17, f19, f20, f21, hq]
            exact Rt.mv0 (BaseR.refl hob) (by simp) (VM.self (by simp))
          ·rw [if_pos f20] at h
           simp -implicitDefEqProofs only [go_sem, seval, f2, f11, f13, f14, f16, f17, f19, f20, hq]
           refine X_condT (lx_ok γ) rfl ?_
           refine X_seq ?_
           refine X_reg (lx_ok γ) ?_
           simp -implicitDefEqProofs only [go_sem, seval, f2, f11, f13, f14, f16, f17, f19, f20, hq]
           obtain rfl := Option.some.inj h
           refine X_ret ?_
           simp -implicitDefEqProofs only [go_sem, seval, f2, f11, f13, f14, f16, f17, f19, f20, hq]
           exact Rt.mv0 (BaseR.refl hob) (by simp) (VM.self (by simp))
         ·rw [if_pos f19] at h
          simp -implicitDefEqProofs only [go_sem, seval, f2, f11, f13, f14, f16, f17, f19, hq]
          cases f22 : decide (4 < (List.length a1.Args : Int))
          ·rw [if_neg (ne_true_of_eq_false f22)] at h
           refine X_cond (lx_ok γ) ?_
           simp -implicitDefEqProofs only [go_sem, seval, f2, f11, f13, f14, f16, f17, f19, f22, hq]
           refine X_skip ?_
           try simp -implicitDefEqProofs only [go_sem]
           refine kJ_in ?_ ⟨h, rfl, rfl⟩
           exact To.mv [(0, 0), (1, 0)] (BaseR.refl hob) (by simp) (by decide) (by simp only [go_sem]; exact ⟨VM.self (by simp), VM.self (by simp), VM.self (by simp), VM.refA (j := 0) (t := 0) rfl, VM.refA (j := 1) (t := 1) rfl⟩) ⟨⟨_, rfl, OM.box _ _ ⟨VM.self (by simpa using Bd.of_rdK hv0_0), VM.self (by simpa using Bd.of_rdK hv0_1), VM.self (by simpa using Bd.of_rdK hv0_2), trivial⟩⟩, ⟨_, rfl, OM.box _ _ ⟨VM.self (by simp), VM.self (by simp), VM.self (by simp), VM.self (by simp), VM.self (by simp), VM.self (by simp), VM.self (by simp), VM.self (by simp), VM.self (by simp), VM.self (by simp), VM.self (by simp), VM.self (by simpa using Bd.of_rdK hv1_11), trivial⟩⟩, trivial⟩
          ·rw [if_pos f22] at h
           refine X_cond (lx_ok γ) ?_
           simp -implicitDefEqProofs only [go_sem, seval, f2, f11, f13, f14, f16, f17, f19, f22, hq]
           refine X_seq ?_
           refine X_reg (lx_ok γ) ?_
           simp -implicitDefEqProofs only [go_sem, seval, f2, f11, f13, f14, f16, f17, f19, f22, hq]
           obtain rfl := Option.some.inj h
           refine X_ret ?_
           simp -implicitDefEqProofs only [go_sem, seval, f2, f11, f13, f14, f16, f17, f19, f22, hq]
           exact Rt.mv0 (BaseR.refl hob) (by simp) (VM.self (by simp))
        ·rw [if_pos f17] at h
         simp -implicitDefEqProofs only [go_sem, seval, f2, f11, f13, f14, f16, f17, hq]
         refine X_condT (lx_ok γ) rfl ?_
         refine X_seq ?_
         refine X_reg (lx_ok γ) ?_
         simp -implicitDefEqProofs only [go_sem, seval, f2, f11, f13, f14, f16, f17, hq]
         obtain rfl := Option.some.inj h
         refine X_ret ?_
         simp -implicitDefEqProofs only [go_sem, seval, f2, f11, f13, f14, f16, f17, hq]
         exact Rt.mv0 (BaseR.refl hob) (by simp) (VM.self (by simp))
       ·rw [if_pos f16] at h
        obtain ⟨x11, f23, h⟩ := bindE h
        simp -implicitDefEqProofs only [go_sem, seval, f2, f11, f13, f14, f16, hq]
        refine callV_eq (portolanref19_has_ok γ _  f23) rfl rfl ?_
        cases f24 : x11
        ·rw [if_neg (ne_true_of_eq_false f24)] at h
         cases f25 : decide (0 < (List.length a1.Args : Int))
         ·rw [if_neg (ne_true_of_eq_false f25)] at h
          simp -implicitDefEqProofs only [go_sem, seval, f2, f11, f13, f14, f16, f24, f25, hq]
          cases f26 : decide (4 < (List.length a1.Args : Int))
          ·rw [if_neg (ne_true_of_eq_false f26)] at h
           refine X_cond (lx_ok γ) ?_
           simp -implicitDefEqProofs only [go_sem, seval, f2, f11, f13, f14, f16, f24, f25, f26, hq]
           refine X_skip ?_
           try simp -implicitDefEqProofs only [go_sem]
           refine kJ_in ?_ ⟨h, rfl, rfl⟩
           exact To.mv [(0, 0), (1, 0)] (BaseR.refl hob) (by simp) (by decide) (by simp only [go_sem]; exact ⟨VM.self (by simp), VM.self (by simp), VM.self (by simp), VM.refA (j := 0) (t := 0) rfl, VM.refA (j := 1) (t := 1) rfl⟩) ⟨⟨_, rfl, OM.box _ _ ⟨VM.self (by simpa using Bd.of_rdK hv0_0), VM.self (by simpa using Bd.of_rdK hv0_1), VM.self (by simpa using Bd.of_rdK hv0_2), trivial⟩⟩, ⟨_, rfl, OM.box _ _ ⟨VM.self (by simp), VM.self (by simp), VM.self (by simp), VM.self (by simp), VM.self (by simp), VM.self (by simp), VM.self (by simp), VM.self (by simp), VM.self (by simp), VM.self (by simp), VM.self (by simp), VM.self (by simpa using Bd.of_rdK hv1_11), trivial⟩⟩, trivial⟩
          ·rw [if_pos f26] at h
           refine X_cond (lx_ok γ) ?_
           simp -implicitDefEqProofs only [go_sem, seval, f2, f11, f13, f14, f16, f24, f25, f26, hq]
           refine X_seq ?_
           refine X_reg (lx_ok γ) ?_
           simp -implicitDefEqProofs only [go_sem, seval, f2, f11, f13, f14, f16, f24, f25, f26, hq]
           obtain rfl := Option.some.inj h
           refine X_ret ?_
           simp -implicitDefEqProofs only [go_sem, seval, f2, f11, f13, f14, f16, f24, f25, f26, hq]
           exact Rt.mv0 (BaseR.refl hob) (by simp) (VM.self (by simp))
         ·rw [if_pos f25] at h
          simp -implicitDefEqProofs only [go_sem, seval, f2, f11, f13, f14, f16, f24, f25, hq]
          refine X_condT (lx_ok γ) rfl ?_
          refine X_seq ?_
          refine X_reg (lx_ok γ) ?_
          simp -implicitDefEqProofs only [go_sem, seval, f2, f11, f13, f14, f16, f24, f25, hq]
          obtain rfl := Option.some.inj h
          refine X_ret ?_
          simp -implicitDefEqProofs only [go_sem, seval, f2, f11, f13, f14, f16, f24, f25, hq]
          exact Rt.mv0 (BaseR.refl hob) (by simp) (VM.self (by simp))
        ·rw [if_pos f24] at h
         simp -implicitDefEqProofs only [go_sem, seval, f2, f11, f13, f14, f16, f24, hq]
         cases f27 : decide (4 < (List.length a1.Args : Int))
         ·rw [if_neg (ne_true_of_eq_false f27)] at h
          refine X_cond (lx_ok γ) ?_
          simp -implicitDefEqProofs only [go_sem, seval, f2, f11, f13, f14, f16, f24, f27, hq]
          refine X_skip ?_
          try simp -implicitDefEqProofs only [go_sem]
          refine kJ_in ?_ ⟨h, rfl, rfl⟩
          exact To.mv [(0, 0), (1, 0)] (BaseR.refl hob) (by simp) (by decide) (by simp only [go_sem]; exact ⟨VM.self (by simp), VM.self (by simp), VM.self (by simp), VM.refA (j := 0) (t := 0) rfl, VM.refA (j := 1) (t := 1) rfl⟩) ⟨⟨_, rfl, OM.box _ _ ⟨VM.self (by simpa using Bd.of_rdK hv0_0), VM.self (by simpa using Bd.of_rdK hv0_1), VM.self (by simpa using Bd.of_rdK hv0_2), trivial⟩⟩, ⟨_, rfl, OM.box _ _ ⟨VM.self (by simp), VM.self (by simp), VM.self (by simp), VM.self (by simp), VM.self (by simp), VM.self (by simp), VM.self (by simp), VM.self (by simp), VM.self (by simp), VM.self (by simp), VM.self (by simp), VM.self (by simpa using Bd.of_rdK hv1_11), trivial⟩⟩, trivial⟩
         ·rw [if_pos f27] at h
          refine X_cond (lx_ok γ) ?_
          simp -implicitDefEqProofs only [go_sem, seval, f2, f11, f13, f14, f16, f24, f27, hq]
          refine X_seq ?_
          refine X_reg (lx_ok γ) ?_
          simp -implicitDefEqProofs only [go_sem, seval, f2, f11, f13, f14, f16, f24, f27, hq]
          obtain rfl := Option.some.inj h
          refine X_ret ?_
          simp -implicitDefEqProofs only [go_sem, seval, f2, f11, f13, f14, f16, f24, f27, hq]
          exact Rt.mv0 (BaseR.refl hob) (by simp) (VM.self (by simp))
      ·rw [if_pos f14] at h
       simp -implicitDefEqProofs only [go_sem, seval, f2, f11, f13, f14, hq]
       refine X_condT (lx_ok γ) rfl ?_
       refine X_seq ?_
       refine X_reg (lx_ok γ) ?_
       simp -implicitDefEqProofs only [go_sem, seval, f2, f11, f13, f14, hq]
       obtain rfl := Option.some.inj h
       refine X_ret ?_
       simp -implicitDefEqProofs only [go_sem, seval, f2, f11, f13, f14, hq]
       exact Rt.mv0 (BaseR.refl hob) (by simp) (VM.self (by simp))
     ·rw [if_pos f13] at h
      obtain ⟨x12, f28, h⟩ := bindE h
      simp -implicitDefEqProofs only [go_sem, seval, f2, f11, f13, hq]
      refine callV_eq (portolanref19_has_ok γ _  f28) rfl rfl ?_
      cases f29 : x12
      ·rw [if_neg (ne_true_of_eq_false f29)] at h
       cases f30 : (a1.M != 0)
       ·rw [if_neg (ne_true_of_eq_false f30)] at h
        obtain ⟨x13, f31, h⟩ := bindE h
        simp -implicitDefEqProofs only [go_sem, seval, f2, f11, f13, f29, f30, hq]
        refine callV_eq (portolanref19_has_ok γ _  f31) rfl rfl ?_
        cases f32 : x13
        ·rw [if_neg (ne_true_of_eq_false f32)] at h
         cases f33 : decide (0 < (List.length a1.Args : Int))
         ·rw [if_neg (ne_true_of_eq_false f33)] at h
          simp -implicitDefEqProofs only [go_sem, seval, f2, f11, f13, f29, f30, f32, f33, hq]
          cases f34 : decide (4 < (List.length a1.Args : Int))
          ·rw [if_neg (ne_true_of_eq_false f34)] at h
           refine X_cond (lx_ok γ) ?_
           simp -implicitDefEqProofs only [go_sem, seval, f2, f11, f13, f29, f30, f32, f33, f34, hq]
           refine X_skip ?_
           try simp -implicitDefEqProofs only [go_sem]
           refine kJ_in ?_ ⟨h, rfl, rfl⟩
           exact To.mv [(0, 0), (1, 0)] (BaseR.refl hob) (by simp) (by decide) (by simp only [go_sem]; exact ⟨VM.self (by simp), VM.self (by simp), VM.self (by simp), VM.refA (j := 0) (t := 0) rfl, VM.refA (j := 1) (t := 1) rfl⟩) ⟨⟨_, rfl, OM.box _ _ ⟨VM.self (by simpa using Bd.of_rdK hv0_0), VM.self (by simpa using Bd.of_rdK hv0_1), VM.self (by simpa using Bd.of_rdK hv0_2), trivial⟩⟩, ⟨_, rfl, OM.box _ _ ⟨VM.self (by simp), VM.self (by simp), VM.self (by simp), VM.self (by simp), VM.self (by simp), VM.self (by simp), VM.self (by simp), VM.self (by simp), VM.self (by simp), VM.self (by simp), VM.self (by simp), VM.self (by simpa using Bd.of_rdK hv1_11), trivial⟩⟩, trivial⟩
          ·rw [if_pos f34] at h
           refine X_cond (lx_ok γ) ?_
           simp -implicitDefEqProofs only [go_sem, seval, f2, f11, f13, f29, f30, f32, f33, f34, hq]
           refine X_seq ?_
           refine X_reg (lx_ok γ) ?_
           simp -implicitDefEqProofs only [go_sem, seval, f2, f11, f13, f29, f30, f32, f33, f34, hq]
           obtain rfl := Option.some.inj h
           refine X_ret ?_
           simp -implicitDefEqProofs only [go_sem, seval, f2, f11, f13, f29, f30, f32, f33, f34, hq]
           exact Rt.mv0 (BaseR.refl hob) (by simp) (VM.self (by simp))
         ·rw [if_pos f33] at h
          simp -implicitDefEqProofs only [go_sem, seval, f2, f11, f13, f29, f30, f32, f33, hq]
          refine X_condT (lx_ok γ) rfl ?_
          refine X_seq ?_
          refine X_reg (lx_ok γ) ?_
          simp -implicitDefEqProofs only [go_sem, seval, f2, f11, f13, f29, f30, f32, f33, hq]
          obtain rfl := Option.some.inj h
          refine X_ret ?_
          simp -implicitDefEqProofs only [go_sem, seval, f2, f11, f13, f29, f30, f32, f33, hq]
          exact Rt.mv0 (BaseR.refl hob) (by simp) (VM.self (by simp))
        ·rw [if_pos f32] at h
         simp -implicitDefEqProofs only [go_sem, seval, f2, f11, f13, f29, f30, f32, hq]
         cases f35 : decide (4 < (List.length a1.Args : Int))
         ·rw [if_neg (ne_true_of_eq_false f35)] at h
          refine X_cond (lx_ok γ) ?_
          simp -implicitDefEqProofs only [go_sem, seval, f2, f11, f13, f29, f30, f32, f35, hq]
          refine X_skip ?_
          try simp -implicitDefEqProofs only [go_sem]
          refine kJ_in ?_ ⟨h, rfl, rfl⟩
          exact To.mv [(0, 0), (1, 0)] (BaseR.refl hob) (by simp) (by decide) (by simp only [go_sem]; exact ⟨VM.self (by simp), VM.self (by simp), VM.self (by simp), VM.refA (j := 0) (t := 0) rfl, VM.refA (j := 1) (t := 1) rfl⟩) ⟨⟨_, rfl, OM.box _ _ ⟨VM.self (by simpa using Bd.of_rdK hv0_0), VM.self (by simpa using Bd.of_rdK hv0_1), VM.self (by simpa using Bd.of_rdK hv0_2), trivial⟩⟩, ⟨_, rfl, OM.box _ _ ⟨VM.self (by simp), VM.self (by simp), VM.self (by simp), VM.self (by simp), VM.self (by simp), VM.self (by simp), VM.self (by simp), VM.self (by simp), VM.self (by simp), VM.self (by simp), VM.self (by simp), VM.self (by simpa using Bd.of_rdK hv1_11), trivial⟩⟩, trivial⟩
         ·rw [if_pos f35] at h
          refine X_cond (lx_ok γ) ?_
          simp -implicitDefEqProofs only [go_sem, seval, f2, f11, f13, f29, f30, f32, f35, hq]
          refine X_seq ?_
          refine X_reg (lx_ok γ) ?_
          simp -implicitDefEqProofs only [go_sem, seval, f2, f11, f13, f29, f30, f32, f35, hq]
          obtain rfl := Option.some.inj h
          refine X_ret ?_
          simp -implicitDefEqProofs only [go_sem, seval, f2, f11, f13, f29, f30, f32, f35, hq]
          exact Rt.mv0 (BaseR.refl hob) (by simp) (VM.self (by simp))
       ·rw [if_pos f30] at h
        simp -implicitDefEqProofs only [go_sem, seval, f2, f11, f13, f29, f30, hq]
        refine X_condT (lx_ok γ) rfl ?_
        refine X_seq ?_
        refine X_reg (lx_ok γ) ?_
        simp -implicitDefEqProofs only [go_sem, seval, f2, f11, f13, f29, f30, hq]
        obtain rfl := Option.some.inj h
        refine X_ret ?_
        simp -implicitDefEqProofs only [go_sem, seval, f2, f11, f13, f29, f30, hq]
        exact Rt.mv0 (BaseR.refl hob) (by simp) (VM.self (by simp))
      ·rw [if_pos f29] at h
       obtain ⟨x14, f36, h⟩ := bindE h
       simp -implicitDefEqProofs only [go_sem, seval, f2, f11, f13, f29, hq]
       refine callV_eq (portolanref19_has_ok γ _  f36) rfl rfl ?_
       cases f37 : x14
       ·rw [if_neg (ne_true_of_eq_false f37)] at h
        cases f38 : decide (0 < (List.length a1.Args : Int))
        ·rw [if_neg (ne_true_of_eq_false f38)] at h
         simp -implicitDefEqProofs only [go_sem, seval, f2, f11, f13, f29, f37, f38, hq]
         cases f39 : decide (4 < (List.length a1.Args : Int))
         ·rw [if_neg (ne_true_of_eq_false f39)] at h
          refine X_cond (lx_ok γ) ?_
          simp -implicitDefEqProofs only [go_sem, seval, f2, f11, f13, f29, f37, f38, f39, hq]
          refine X_skip ?_
          try simp -implicitDefEqProofs only [go_sem]
          refine kJ_in ?_ ⟨h, rfl, rfl⟩
          exact To.mv [(0, 0), (1, 0)] (BaseR.refl hob) (by simp) (by decide) (by simp only [go_sem]; exact ⟨VM.self (by simp), VM.self (by simp), VM.self (by simp), VM.refA (j := 0) (t := 0) rfl, VM.refA (j := 1) (t := 1) rfl⟩) ⟨⟨_, rfl, OM.box _ _ ⟨VM.self (by simpa using Bd.of_rdK hv0_0), VM.self (by simpa using Bd.of_rdK hv0_1), VM.self (by simpa using Bd.of_rdK hv0_2), trivial⟩⟩, ⟨_, rfl, OM.box _ _ ⟨VM.self (by simp), VM.self (by simp), VM.self (by simp), VM.self (by simp), VM.self (by simp), VM.self (by simp), VM.self (by simp), VM.self (by simp), VM.self (by simp), VM.self (by simp), VM.self (by simp), VM.self (by simpa using Bd.of_rdK hv1_11), trivial⟩⟩, trivial⟩
         ·rw [if_pos f39] at h
          refine X_cond (lx_ok γ) ?_
          simp -implicitDefEqProofs only [go_sem, seval, f2, f11, f13, f29, f37, f38, f39, hq]
          refine X_seq ?_
          refine X_reg (lx_ok γ) ?_
          simp -implicitDefEqProofs only [go_sem, seval, f2, f11, f13, f29, f37, f38, f39, hq]
          obtain rfl := Option.some.inj h
          refine X_ret ?_
          simp -implicitDefEqProofs only [go_sem, seval, f2, f11, f13, f29, f37, f38, f39, hq]
          exact Rt.mv0 (BaseR.refl hob) (by simp) (VM.self (by simp))
        ·rw [if_pos f38] at h
         simp -implicitDefEqProofs only [go_sem, seval, f2, f11, f13, f29, f37, f38, hq]
         refine X_condT (lx_ok γ) rfl ?_
         refine X_seq ?_
         refine X_reg (lx_ok γ) ?_
         simp -implicitDefEqProofs only [go_sem, seval, f2, f11, f13, f29, f37, f38, hq]
         obtain rfl := Option.some.inj h
         refine X_ret ?_
         simp -implicitDefEqProofs only [go_sem, seval, f2, f11, f13, f29, f37, f38, hq]
         exact Rt.mv0 (BaseR.refl hob) (by simp) (VM.self (by simp))
       ·rw [if_pos f37] at h
        simp -implicitDefEqProofs only [go_sem, seval, f2, f11, f13, f29, f37, hq]
        cases f40 : decide (4 < (List.length a1.Args : Int))
        ·rw [if_neg (ne_true_of_eq_false f40)] at h
         refine X_cond (lx_ok γ) ?_
         simp -implicitDefEqProofs only [go_sem, seval, f2, f11, f13, f29, f37, f40, hq]
         refine X_skip ?_
         try simp -implicitDefEqProofs only [go_sem]
         refine kJ_in ?_ ⟨h, rfl, rfl⟩
         exact To.mv [(0, 0), (1, 0)] (BaseR.refl hob) (by simp) (by decide) (by simp only [go_sem]; exact ⟨VM.self (by simp), VM.self (by simp), VM.self (by simp), VM.refA (j := 0) (t := 0) rfl, VM.refA (j := 1) (t := 1) rfl⟩) ⟨⟨_, rfl, OM.box _ _ ⟨VM.self (by simpa using Bd.of_rdK hv0_0), VM.self (by simpa using Bd.of_rdK hv0_1), VM.self (by simpa using Bd.of_rdK hv0_2), trivial⟩⟩, ⟨_, rfl, OM.box _ _ ⟨VM.self (by simp), VM.self (by simp), VM.self (by simp), VM.self (by simp), VM.self (by simp), VM.self (by simp), VM.self (by simp), VM.self (by simp), VM.self (by simp), VM.self (by simp), VM.self (by simp), VM.self (by simpa using Bd.of_rdK hv1_11), trivial⟩⟩, trivial⟩
        ·rw [if_pos f40] at h
         refine X_cond (lx_ok γ) ?_
         simp -implicitDefEqProofs only [go_sem, seval, f2, f11, f13, f29, f37, f40, hq]
         refine X_seq ?_
         refine X_reg (lx_ok γ) ?_
         simp -implicitDefEqProofs only [go_sem, seval, f2, f11, f13, f29, f37, f40, hq]
         obtain rfl := Option.some.inj h
         refine X_ret ?_
         simp -implicitDefEqProofs only [go_sem, seval, f2, f11, f13, f29, f37, f40, hq]
         exact Rt.mv0 (BaseR.refl hob) (by simp) (VM.self (by simp))
    ·rw [if_pos f11] at h
     obtain ⟨x15, f41, h⟩ := bindE h
     simp -implicitDefEqProofs only [go_sem, seval, f2, f11, hq]
     refine callV_eq (portolanref19_has_ok γ _  f41) rfl rfl ?_
     cases f42 : x15
     ·rw [if_neg (ne_true_of_eq_false f42)] at h
      cases f43 : (a1.M != 0)
      ·rw [if_neg (ne_true_of_eq_false f43)] at h
       obtain ⟨x16, f44, h⟩ := bindE h
       simp -implicitDefEqProofs only [go_sem, seval, f2, f11, f42, f43, hq]
       refine callV_eq (portolanref19_has_ok γ _  f44) rfl rfl ?_
       cases f45 : x16
       ·rw [if_neg (ne_true_of_eq_false f45)] at h
        cases f46 : decide (0 < (List.length a1.Args : Int))
        ·rw [if_neg (ne_true_of_eq_false f46)] at h
         simp -implicitDefEqProofs only [go_sem, seval, f2, f11, f42, f43, f45, f46, hq]
         cases f47 : decide (4 < (List.length a1.Args : Int))
         ·rw [if_neg (ne_true_of_eq_false f47)] at h
          refine X_cond (lx_ok γ) ?_
          simp -implicitDefEqProofs only [go_sem, seval, f2, f11, f42, f43, f45, f46, f47, hq]
          refine X_skip ?_
          try simp -implicitDefEqProofs only [go_sem]
          refine kJ_in ?_ ⟨h, rfl, rfl⟩
          exact To.mv [(0, 0), (1, 0)] (BaseR.refl hob) (by simp) (by decide) (by simp only [go_sem]; exact ⟨VM.self (by simp), VM.self (by simp), VM.self (by simp), VM.refA (j := 0) (t := 0) rfl, VM.refA (j := 1) (t := 1) rfl⟩) ⟨⟨_, rfl, OM.box _ _ ⟨VM.self (by simpa using Bd.of_rdK hv0_0), VM.self (by simpa using Bd.of_rdK hv0_1), VM.self (by simpa using Bd.of_rdK hv0_2), trivial⟩⟩, ⟨_, rfl, OM.box _ _ ⟨VM.self (by simp), VM.self (by simp), VM.self (by simp), VM.self (by simp), VM.self (by simp), VM.self (by simp), VM.self (by simp), VM.self (by simp), VM.self (by simp), VM.self (by simp), VM.self (by simp), VM.self (by simpa using Bd.of_rdK hv1_11), trivial⟩⟩, trivial⟩
         ·rw [if_pos f47] at h
          refine X_cond (lx_ok γ) ?_
          simp -implicitDefEqProofs only [go_sem, seval, f2, f11, f42, f43, f45, f46, f47, hq]
          refine X_seq ?_
          refine X_reg (lx_ok γ) ?_
          simp -implicitDefEqProofs only [go_sem, seval, f2, f11, f42, f43, f45, f46, f47, hq]
          obtain rfl := Option.some.inj h
          refine X_ret ?_
          simp -implicitDefEqProofs only [go_sem, seval, f2, f11, f42, f43, f45, f46, f47, hq]
          exact Rt.mv0 (BaseR.refl hob) (by simp) (VM.self (by simp))
        ·rw [if_pos f46] at h
         simp -implicitDefEqProofs only [go_sem, seval, f2, f11, f42, f43, f45, f46, hq]
         refine X_condT (lx_ok γ) rfl ?_
         refine X_seq ?_
         refine X_reg (lx_ok γ) ?_
         simp -implicitDefEqProofs only [go_sem, seval, f2, f11, f42, f43, f45, f46, hq]
         obtain rfl := Option.some.inj h
         refine X_ret ?_
         simp -implicitDefEqProofs only [go_sem, seval, f2, f11, f42, f43, f45, f46, hq]
         exact Rt.mv0 (BaseR.refl hob) (by simp) (VM.self (by simp))
       ·rw [if_pos f45] at h
        simp -implicitDefEqProofs only [go_sem, seval, f2, f11, f42, f43, f45, hq]
        cases f48 : decide (4 < (List.length a1.Args : Int))
        ·rw [if_neg (ne_true_of_eq_false f48)] at h
         refine X_cond (lx_ok γ) ?_
         simp -implicitDefEqProofs only [go_sem, seval, f2, f11, f42, f43, f45, f48, hq]
         refine X_skip ?_
         try simp -implicitDefEqProofs only [go_sem]
         refine kJ_in ?_ ⟨h, rfl, rfl⟩
         exact To.mv [(0, 0), (1, 0)] (BaseR.refl hob) (by simp) (by decide) (by simp only [go_sem]; exact ⟨VM.self (by simp), VM.self (by simp), VM.self (by simp), VM.refA (j := 0) (t := 0) rfl, VM.refA (j := 1) (t := 1) rfl⟩) ⟨⟨_, rfl, OM.box _ _ ⟨VM.self (by simpa using Bd.of_rdK hv0_0), VM.self (by simpa using Bd.of_rdK hv0_1), VM.self (by simpa using Bd.of_rdK hv0_2), trivial⟩⟩, ⟨_, rfl, OM.box _ _ ⟨VM.self (by simp), VM.self (by simp), VM.self (by simp), VM.self (by simp), VM.self (by simp), VM.self (by simp), VM.self (by simp), VM.self (by simp), VM.self (by simp), VM.self (by simp), VM.self (by simp), VM.self (by simpa using Bd.of_rdK hv1_11), trivial⟩⟩, trivial⟩
        ·rw [if_pos f48] at h
         refine X_cond (lx_ok γ) ?_
         simp -implicitDefEqProofs only [go_sem, seval, f2, f11, f42, f43, f45, f48, hq]
         refine X_seq ?_
         refine X_reg (lx_ok γ) ?_
         simp -implicitDefEqProofs only [go_sem, seval, f2, f11, f42, f43, f45, f48, hq]
         obtain rfl := Option.some.inj h
         refine X_ret ?_
         simp -implicitDefEqProofs only [go_sem, seval, f2, f11, f42, f43, f45, f48, hq]
         exact Rt.mv0 (BaseR.refl hob) (by simp) (VM.self (by simp))
      ·rw [if_pos f43] at h
       simp -implicitDefEqProofs only [go_sem, seval, f2, f11, f42, f43, hq]
       refine X_condT (lx_ok γ) rfl ?_
       refine X_seq ?_
       refine X_reg (lx_ok γ) ?_
       simp -implicitDefEqProofs only [go_sem, seval, f2, f11, f42, f43, hq]
       obtain rfl := Option.some.inj h
       refine X_ret ?_
       simp -implicitDefEqProofs only [go_sem, seval, f2, f11, f42, f43, hq]
       exact Rt.mv0 (BaseR.refl hob) (by simp) (VM.self (by simp))
     ·rw [if_pos f42] at h
      obtain ⟨x17, f49, h⟩ := bindE h
      simp -implicitDefEqProofs only [go_sem, seval, f2, f11, f42, hq]
      refine callV_eq (portolanref19_has_ok γ _  f49) rfl rfl ?_
      cases f50 : x17
      ·rw [if_neg (ne_true_of_eq_false f50)] at h
       cases f51 : decide (0 < (List.length a1.Args : Int))
       ·rw [if_neg (ne_true_of_eq_false f51)] at h
        simp -implicitDefEqProofs only [go_sem, seval, f2, f11, f42, f50, f51, hq]
        cases f52 : decide (4 < (List.length a1.Args : Int))
        ·rw [if_neg (ne_true_of_eq_false f52)] at h
         refine X_cond (lx_ok γ) ?_
         simp -implicitDefEqProofs only [go_sem, seval, f2, f11, f42, f50, f51, f52, hq]
         refine X_skip ?_
         try simp -implicitDefEqProofs only [go_sem]
         refine kJ_in ?_ ⟨h, rfl, rfl⟩
         exact To.mv [(0, 0), (1, 0)] (BaseR.refl hob) (by simp) (by decide) (by simp only [go_sem]; exact ⟨VM.self (by simp), VM.self (by simp), VM.self (by simp), VM.refA (j := 0) (t := 0) rfl, VM.refA (j := 1) (t := 1) rfl⟩) ⟨⟨_, rfl, OM.box _ _ ⟨VM.self (by simpa using Bd.of_rdK hv0_0), VM.self (by simpa using Bd.of_rdK hv0_1), VM.self (by simpa using Bd.of_rdK hv0_2), trivial⟩⟩, ⟨_, rfl, OM.box _ _ ⟨VM.self (by simp), VM.self (by simp), VM.self (by simp), VM.self (by simp), VM.self (by simp), VM.self (by simp), VM.self (by simp), VM.self (by simp), VM.self (by simp), VM.self (by simp), VM.self (by simp), VM.self (by simpa using Bd.of_rdK hv1_11), trivial⟩⟩, trivial⟩
        ·rw [if_pos f52] at h
         refine X_cond (lx_ok γ) ?_
         simp -implicitDefEqProofs only [go_sem, seval, f2, f11, f42, f50, f51, f52, hq]
         refine X_seq ?_
         refine X_reg (lx_ok γ) ?_
         simp -implicitDefEqProofs only [go_sem, seval, f2, f11, f42, f50, f51, f52, hq]
         obtain rfl := Option.some.inj h
         refine X_ret ?_
         simp -implicitDefEqProofs only [go_sem, seval, f2, f11, f42, f50, f51, f52, hq]
         exact Rt.mv0 (BaseR.refl hob) (by simp) (VM.self (by simp))
       ·rw [if_pos f51] at h
        simp -implicitDefEqProofs only [go_sem, seval, f2, f11, f42, f50, f51, hq]
        refine X_condT (lx_ok γ) rfl ?_
        refine X_seq ?_
        refine X_reg (lx_ok γ) ?_
        simp -implicitDefEqProofs only [go_sem, seval, f2, f11, f42, f50, f51, hq]
        obtain rfl := Option.some.inj h
        refine X_ret ?_
        simp -implicitDefEqProofs only [go_sem, seval, f2, f11, f42, f50, f51, hq]
        exact Rt.mv0 (BaseR.refl hob) (by simp) (VM.self (by simp))
      ·rw [if_pos f50] at h
       simp -implicitDefEqProofs only [go_sem, seval, f2, f11, f42, f50, hq]
       cases f53 : decide (4 < (List.length a1.Args : Int))
       ·rw [if_neg (ne_true_of_eq_false f53)] at h
        refine X_cond (lx_ok γ) ?_
        simp -implicitDefEqProofs only [go_sem, seval, f2, f11, f42, f50, f53, hq]
        refine X_skip ?_
        try simp -implicitDefEqProofs only [go_sem]
        refine kJ_in ?_ ⟨h, rfl, rfl⟩
        exact To.mv [(0, 0), (1, 0)] (BaseR.refl hob) (by simp) (by decide) (by simp only [go_sem]; exact ⟨VM.self (by simp), VM.self (by simp), VM.self (by simp), VM.refA (j := 0) (t := 0) rfl, VM.refA (j := 1) (t := 1) rfl⟩) ⟨⟨_, rfl, OM.box _ _ ⟨VM.self (by simpa using Bd.of_rdK hv0_0), VM.self (by simpa using Bd.of_rdK hv0_1), VM.self (by simpa using Bd.of_rdK hv0_2), trivial⟩⟩, ⟨_, rfl, OM.box _ _ ⟨VM.self (by simp), VM.self (by simp), VM.self (by simp), VM.self (by simp), VM.self (by simp), VM.self (by simp), VM.self (by simp), VM.self (by simp), VM.self (by simp), VM.self (by simp), VM.self (by simp), VM.self (by simpa using Bd.of_rdK hv1_11), trivial⟩⟩, trivial⟩
       ·rw [if_pos f53] at h
        refine X_cond (lx_ok γ) ?_
        simp -implicitDefEqProofs only [go_sem, seval, f2, f11, f42, f50, f53, hq]
        refine X_seq ?_
        refine X_reg (lx_ok γ) ?_
        simp -implicitDefEqProofs only [go_sem, seval, f2, f11, f42, f50, f53, hq]
        obtain rfl := Option.some.inj h
        refine X_ret ?_
        simp -implicitDefEqProofs only [go_sem, seval, f2, f11, f42, f50, f53, hq]
        exact Rt.mv0 (BaseR.refl hob) (by simp) (VM.self (by simp))
  ·refine X_block ?_
   obtain ⟨lr1, hl1, hk1, hr1⟩ := aft2 h
   refine X_forN hl1 (fun (i1 : Nat) (s : Unit) as1 ob1 => [(2, vint .i64 a2), (3, vint .i64 a3), (4, vint .i64 a4), (5, V.ref ob.length 0), (6, V.ref (ob.length + 1) 0), (11, vstr x1.1), (13, vstr ({ data := #[68, 65, 66, 67] } : ByteArray)), (14, vint .i64 (i1 : Int))] = as1 ∧ ob ++ [some (O.box [v0_0, v0_1, v0_2]), some (O.box [vint .i64 a1.Op, vint .i64 a1.D.Kind, vint .i64 a1.D.N, vint .i64 a1.A.Kind, vint .i64 a1.A.N, vint .i64 a1.B.Kind, vint .i64 a1.B.N, vint .i64 a1.C.Kind, vint .i64 a1.C.N, vint .i64 a1.N, vint .i64 a1.M, v1_11])] = ob1) ⟨_, _, ?_, rfl, rfl⟩ ?_ ?_
   ·exact To.mv [(0, 0), (1, 0)] (BaseR.refl hob) (by simp) (by decide) (by simp only [go_sem]; exact ⟨VM.self (by simp), VM.self (by simp), VM.self (by simp), VM.refA (j := 0) (t := 0) rfl, VM.refA (j := 1) (t := 1) rfl, VM.self (by simp), VM.self (by simp), VM.eqv (by simp) (by simp)⟩) ⟨⟨_, rfl, OM.box _ _ ⟨VM.self (by simpa using Bd.of_rdK hv0_0), VM.self (by simpa using Bd.of_rdK hv0_1), VM.self (by simpa using Bd.of_rdK hv0_2), trivial⟩⟩, ⟨_, rfl, OM.box _ _ ⟨VM.self (by simp), VM.self (by simp), VM.self (by simp), VM.self (by simp), VM.self (by simp), VM.self (by simp), VM.self (by simp), VM.self (by simp), VM.self (by simp), VM.self (by simp), VM.self (by simp), VM.self (by simpa using Bd.of_rdK hv1_11), trivial⟩⟩, trivial⟩
   ·rintro i1 _ o1 hi1 hw1 h ho1 as1 ob1 ⟨rfl, rfl⟩
    rw [portolanref19_ins.b1] at h
    refine X_seq ?_
    refine X_seq ?_
    refine X_reg (lx_ok γ) ?_
    simp -implicitDefEqProofs only [go_sem, seval, f2, hi1, hq]
    refine X_cond (lx_ok γ) ?_
    simp -implicitDefEqProofs only [go_sem, seval, f2, hi1, hq]
    refine X_skip ?_
    try simp -implicitDefEqProofs only [go_sem]
    refine X_seq ?_
    refine X_block ?_
    refine X_seq ?_
    refine X_drawn (lx_ok γ) [[], [], [], [1, 2], [0, 1, 2, 3], [], [0, 1, 2, 3, 4, 5]] (fun i => match i with | 5 => true | 6 => true | _ => false) (by kernel_rfl) ?_
    obtain ⟨x18, f54, h⟩ := bindE h
    obtain ⟨f55, f56, f57, f58⟩ := ixS_some f54
    try simp only [Int.toNat_natCast, Int.reduceToNat] at f57
    replace f58 := f58.symm
    obtain ⟨x19, f59, h⟩ := bindE h
    try simp -implicitDefEqProofs only [go_sem, seval, f2, hi1, hq, f55, f57, f58, cmpr, List.getD_cons_zero, List.getD_cons_succ, List.contains_cons, List.contains_nil, Nat.reduceBEq, Bool.false_or, Bool.or_false, Bool.true_or, Bool.or_true, beq_self_eq_true]
    refine callV_eq (portolanref19_loc_ok γ _ (by first | exact rdK_app hv1_11 | exact hv1_11) f59) rfl rfl ?_
    try simp -implicitDefEqProofs only [go_sem, seval, f2, hi1, hq, f55, f57, f58, cmpr, List.getD_cons_zero, List.getD_cons_succ, List.contains_cons, List.contains_nil, Nat.reduceBEq, Bool.false_or, Bool.or_false, Bool.true_or, Bool.or_true, beq_self_eq_true]
    refine ⟨by first | exact callV_eq (portolanref19_loc_ok γ _ (by first | exact rdK_app hv1_11 | exact hv1_11) f59) rfl rfl (by simp -implicitDefEqProofs only [go_sem, and_self]) | exact fun _ => callV_eq (portolanref19_loc_ok γ _ (by first | exact rdK_app hv1_11 | exact hv1_11) f59) rfl rfl (by simp -implicitDefEqProofs only [go_sem, and_self]), ?_⟩
    try simp -implicitDefEqProofs only [go_sem, seval, f2, hi1, hq, f55, f57, f58]
    refine X_seq ?_
    refine X_reg (lx_ok γ) ?_
    obtain ⟨x20, f60, h⟩ := bindE h
    simp -implicitDefEqProofs only [go_sem, seval, f2, hi1, hq, f55, f57, f58]
    refine callV_eq (portolanref19_has_ok γ _  f60) rfl rfl ?_
    simp -implicitDefEqProofs only [go_sem, seval, f2, hi1, hq, f55, f57, f58]
    cases f61 : x20
    ·rw [if_neg (ne_true_of_eq_false f61)] at h
     refine X_cond (lx_ok γ) ?_
     simp -implicitDefEqProofs only [go_sem, seval, f2, hi1, f61, hq, f55, f57, f58]
     refine X_seq ?_
     refine X_reg (lx_ok γ) ?_
     simp -implicitDefEqProofs only [go_sem, seval, f2, hi1, f61, hq]
     cases f62 : decide (x19.Kind = 0) && decide (x19.N = 0)
     ·rw [if_neg (ne_true_of_eq_false f62)] at h
      refine X_cond (lx_ok γ) ?_
      simp -implicitDefEqProofs only [go_sem, seval, f2, hi1, f61, f62, hq]
      refine X_seq ?_
      refine X_reg (lx_ok γ) ?_
      simp -implicitDefEqProofs only [go_sem, seval, f2, hi1, f61, f62, hq]
      obtain rfl := Option.some.inj h
      have h := hr1 _ (ho1 (fun _ hs => nomatch hs))
      obtain rfl := Option.some.inj h
      refine X_ret ?_
      simp -implicitDefEqProofs only [go_sem, seval, f2, hi1, f61, f62, hq]
      exact Rt.mv0 (BaseR.refl hob) (by simp) (VM.self (by simp))
     ·rw [if_pos f62] at h
      refine X_cond (lx_ok γ) ?_
      simp -implicitDefEqProofs only [go_sem, seval, f2, hi1, f61, f62, hq]
      refine X_skip ?_
      try simp -implicitDefEqProofs only [go_sem]
      refine X_reg (lx_ok γ) ?_
      obtain rfl := Option.some.inj h
      simp -implicitDefEqProofs only [go_sem, seval, f2, hi1, f61, f62, hq]
      refine kR_in rfl ?_ ⟨rfl, rfl⟩
      exact To.mv [(0, 0), (1, 0)] (BaseR.refl hob) (by simp) (by decide) (by simp only [go_sem]; exact ⟨VM.self (by simp), VM.self (by simp), VM.self (by simp), VM.refA (j := 0) (t := 0) rfl, VM.refA (j := 1) (t := 1) rfl, VM.self (by simp), VM.self (by simp), VM.eqv (by rw [hw1]) (by simp)⟩) ⟨⟨_, rfl, OM.box _ _ ⟨VM.self (by simpa using Bd.of_rdK hv0_0), VM.self (by simpa using Bd.of_rdK hv0_1), VM.self (by simpa using Bd.of_rdK hv0_2), trivial⟩⟩, ⟨_, rfl, OM.box _ _ ⟨VM.self (by simp), VM.self (by simp), VM.self (by simp), VM.self (by simp), VM.self (by simp), VM.self (by simp), VM.self (by simp), VM.self (by simp), VM.self (by simp), VM.self (by simp), VM.self (by simp), VM.self (by simpa using Bd.of_rdK hv1_11), trivial⟩⟩, trivial⟩
    ·rw [if_pos f61] at h
     refine X_cond (lx_ok γ) ?_
     simp -implicitDefEqProofs only [go_sem, seval, f2, hi1, f61, hq, f55, f57, f58]
     refine X_seq ?_
     refine X_reg (lx_ok γ) ?_
     obtain ⟨x21, f63, h⟩ := bindE h
     simp -implicitDefEqProofs only [go_sem, seval, f2, hi1, f61, hq]
     refine callV_eq (portolanref19_in_ok γ _  f63) rfl rfl ?_
     simp -implicitDefEqProofs only [go_sem, seval, f2, hi1, f61, hq]
     cases f64 : x21
     ·rw [if_neg (ne_true_of_eq_false f64)] at h
      refine X_cond (lx_ok γ) ?_
      simp -implicitDefEqProofs only [go_sem, seval, f2, hi1, f61, f64, hq]
      refine X_seq ?_
      refine X_reg (lx_ok γ) ?_
      simp -implicitDefEqProofs only [go_sem, seval, f2, hi1, f61, f64, hq]
      obtain rfl := Option.some.inj h
      have h := hr1 _ (ho1 (fun _ hs => nomatch hs))
      obtain rfl := Option.some.inj h
      refine X_ret ?_
      simp -implicitDefEqProofs only [go_sem, seval, f2, hi1, f61, f64, hq]
      exact Rt.mv0 (BaseR.refl hob) (by simp) (VM.self (by simp))
     ·rw [if_pos f64] at h
      refine X_cond (lx_ok γ) ?_
      simp -implicitDefEqProofs only [go_sem, seval, f2, hi1, f61, f64, hq]
      refine X_skip ?_
      try simp -implicitDefEqProofs only [go_sem]
      refine X_reg (lx_ok γ) ?_
      obtain rfl := Option.some.inj h
      simp -implicitDefEqProofs only [go_sem, seval, f2, hi1, f61, f64, hq]
      refine kR_in rfl ?_ ⟨rfl, rfl⟩
      exact To.mv [(0, 0), (1, 0)] (BaseR.refl hob) (by simp) (by decide) (by simp only [go_sem]; exact ⟨VM.self (by simp), VM.self (by simp), VM.self (by simp), VM.refA (j := 0) (t := 0) rfl, VM.refA (j := 1) (t := 1) rfl, VM.self (by simp), VM.self (by simp), VM.eqv (by rw [hw1]) (by simp)⟩) ⟨⟨_, rfl, OM.box _ _ ⟨VM.self (by simpa using Bd.of_rdK hv0_0), VM.self (by simpa using Bd.of_rdK hv0_1), VM.self (by simpa using Bd.of_rdK hv0_2), trivial⟩⟩, ⟨_, rfl, OM.box _ _ ⟨VM.self (by simp), VM.self (by simp), VM.self (by simp), VM.self (by simp), VM.self (by simp), VM.self (by simp), VM.self (by simp), VM.self (by simp), VM.self (by simp), VM.self (by simp), VM.self (by simp), VM.self (by simpa using Bd.of_rdK hv1_11), trivial⟩⟩, trivial⟩
   ·rintro i1 _ hi1 hn1 as1 ob1 ⟨rfl, rfl⟩
    refine X_seq ?_
    refine X_seq ?_
    refine X_reg (lx_ok γ) ?_
    simp -implicitDefEqProofs only [go_sem, seval, f2, hi1, hq]
    refine X_cond (lx_ok γ) ?_
    simp -implicitDefEqProofs only [go_sem, seval, f2, hi1, hq]
    have h := hk1 _ (.inl hn1)
    refine X_exit ?_
    try simp -implicitDefEqProofs only [go_sem, ↓reduceIte, Nat.reduceEqDiff, reduceCtorEq]
    refine kJ_in ?_ ⟨h, rfl, rfl⟩
    exact To.mv [(0, 0), (1, 0)] (BaseR.refl hob) (by simp) (by decide) (by simp only [go_sem]; exact ⟨VM.self (by simp), VM.self (by simp), VM.self (by simp), VM.refA (j := 0) (t := 0) rfl, VM.refA (j := 1) (t := 1) rfl, VM.self (by simp)⟩) ⟨⟨_, rfl, OM.box _ _ ⟨VM.self (by simpa using Bd.of_rdK hv0_0), VM.self (by simpa using Bd.of_rdK hv0_1), VM.self (by simpa using Bd.of_rdK hv0_2), trivial⟩⟩, ⟨_, rfl, OM.box _ _ ⟨VM.self (by simp), VM.self (by simp), VM.self (by simp), VM.self (by simp), VM.self (by simp), VM.self (by simp), VM.self (by simp), VM.self (by simp), VM.self (by simp), VM.self (by simp), VM.self (by simp), VM.self (by simpa using Bd.of_rdK hv1_11), trivial⟩⟩, trivial⟩
end Go.Pf
end
section
set_option maxRecDepth 100000
namespace Go.Pf
open Go Go.Ab Go.Pp Go.Proofs Go.Proofs.S19
attribute [local go_sem] Lxτ Lxγ gam0 Int.toNat_natCast tau3 tau4 tau22 tau23 tau25 tau46 tau47 tau49 eI eB eS e_Loc e_Mins e_Text e_text_room e_text_reader e_portolanref19_reader
set_option maxHeartbeats 1000000 in
theorem portolanref19_Right_ok (γ : GT) (ob : OT) {a0 : Text} {v0_0 : V} {v0_1 : V} {v0_2 : V} (hv0_0 : rdK (getO ob) 12 v0_0 = some (List.map e_Mins a0.Code)) (hv0_1 : rdK (getO ob) 1 v0_1 = some (List.map (eI .i64) a0.Starts)) (hv0_2 : rdK (getO ob) 1 v0_2 = some (List.map (eI .i64) a0.Slots)) {r : Bool} (h : portolanref19_Right a0 = some r) :
  Valid (Lx γ) 16 [V.agg [v0_0, v0_1, v0_2]] ob (vbool r) ob := by
 refine valid_X (lx_ok γ) (fn := Tryd.f16) (rs := [.tmp 2]) Tryd.func16 (by kernel_rfl) rfl rfl Tryd.ntmps16 rfl (by simp) fun hb hob => ?_
 have hq := And.intro (rd4 hv0_0) (And.intro (rd4 hv0_1) (rd4 hv0_2))
 rw [portolanref19_Right] at h
 refine X_seq ?_
 refine X_reg (lx_ok γ) ?_
 simp -implicitDefEqProofs only [go_sem, seval, hq]
 refine X_seq ?_
 refine X_reg (lx_ok γ) ?_
 simp -implicitDefEqProofs only [go_sem, seval, hq]
 refine X_seq ?_
 refine X_seq ?_
 refine X_jq (J := fun as1 ob1 => ∃ (x5 : Bool), portolanref19_Right.j1 a0 x5 = some r ∧ [(1, V.ref ob.length 0), (3, vint .i64 (List.length a0.Starts : Int)), (37, vbool x5)] = as1 ∧ ob ++ [some (O.box [v0_0, v0_1, v0_2])] = ob1) ?_ ?_
 ·rintro as1 ob1 ⟨x5, h, rfl, rfl⟩
  rw [portolanref19_Right.j1] at h
  simp -implicitDefEqProofs only [go_sem, seval, hq]
  cases f1 : x5
  ·rw [if_neg (ne_true_of_eq_false f1)] at h
   refine X_cond (lx_ok γ) ?_
   simp -implicitDefEqProofs only [go_sem, seval, f1, hq]
   refine X_skip ?_
   try simp -implicitDefEqProofs only [go_sem]
   refine X_seq ?_
   refine X_seq ?_
   refine X_reg (lx_ok γ) ?_
   simp -implicitDefEqProofs only [go_sem, seval, f1, hq]
   refine X_jq (J := fun as1 ob1 => portolanref19_Right.k1 = some r ∧ [] = as1 ∧ ob = ob1) ?_ ?_
   ·rintro as1 ob1 ⟨h, rfl, rfl⟩
    rw [portolanref19_Right.k1] at h
    simp -implicitDefEqProofs only [go_sem, seval, f1, hq]
    refine X_seq ?_
    refine X_reg (lx_ok γ) ?_
    simp -implicitDefEqProofs only [go_sem, seval, f1, hq]
    obtain rfl := Option.some.inj h
    refine X_ret ?_
    simp -implicitDefEqProofs only [go_sem, seval, f1, hq]
    exact Rt.mv1 (BaseR.refl hob) (by simp) (VM.self (by simp))
   ·refine X_block ?_
    obtain ⟨lr1, hl1, hk1, hr1⟩ := aft2 h
    refine X_forN hl1 (fun (i1 : Nat) (s : Unit) as1 ob1 => [(1, V.ref ob.length 0), (3, vint .i64 (List.length a0.Starts : Int)), (4, vint .i64 (i1 : Int))] = as1 ∧ ob ++ [some (O.box [v0_0, v0_1, v0_2])] = ob1) ⟨_, _, ?_, rfl, rfl⟩ ?_ ?_
    ·exact To.mv [(0, 0)] (BaseR.refl hob) (by simp) (by decide) (by simp only [go_sem]; exact ⟨VM.refA (j := 0) (t := 0) rfl, VM.self (by simp), VM.eqv (by simp) (by simp)⟩) ⟨⟨_, rfl, OM.box _ _ ⟨VM.self (by simpa using Bd.of_rdK hv0_0), VM.self (by simpa using Bd.of_rdK hv0_1), VM.self (by simpa using Bd.of_rdK hv0_2), trivial⟩⟩, trivial⟩
    ·rintro i1 _ o1 hi1 hw1 h ho1 as1 ob1 ⟨rfl, rfl⟩
     rw [portolanref19_Right.b1] at h
     refine X_seq ?_
     refine X_seq ?_
     refine X_reg (lx_ok γ) ?_
     simp -implicitDefEqProofs only [go_sem, seval, f1, hi1, hq]
     refine X_cond (lx_ok γ) ?_
     simp -implicitDefEqProofs only [go_sem, seval, f1, hi1, hq]
     refine X_skip ?_
     try simp -implicitDefEqProofs only [go_sem]
     refine X_seq ?_
     refine X_block ?_
     refine X_seq ?_
     refine X_reg (lx_ok γ) ?_
     simp -implicitDefEqProofs only [go_sem, seval, f1, hi1, hq]
     refine X_seq ?_
     refine X_jq (J := fun as1 ob1 => ∃ (x8 : Int), portolanref19_Right.j2 a0 x8 i1 = some o1 ∧ [(1, V.ref ob.length 0), (3, vint .i64 (List.length a0.Starts : Int)), (4, vint .i64 (i1 : Int)), (5, vint .i64 x8)] = as1 ∧ ob ++ [some (O.box [v0_0, v0_1, v0_2])] = ob1) ?_ ?_
     ·rintro as1 ob1 ⟨x8, h, rfl, rfl⟩
      rw [portolanref19_Right.j2] at h
      simp -implicitDefEqProofs only [go_sem, seval, f1, hi1, hq]
      refine X_seq ?_
      refine X_reg (lx_ok γ) ?_
      obtain ⟨x9, f2, h⟩ := bindE h
      obtain ⟨f3, f4⟩ := ixL_nat f2
      have f5 : (0 : Int) ≤ (i1 : Int) := Int.natCast_nonneg _
      simp -implicitDefEqProofs only [go_sem, seval, f1, hi1, hq, f3, f4, f5]
      refine X_seq ?_
      refine X_seq ?_
      refine X_jq (J := fun as1 ob1 => ∃ (x13 : Bool), portolanref19_Right.j3 a0 x8 x9 x13 i1 = some o1 ∧ [(1, V.ref ob.length 0), (3, vint .i64 (List.length a0.Starts : Int)), (4, vint .i64 (i1 : Int)), (5, vint .i64 x8), (6, vint .i64 x9), (86, vbool x13)] = as1 ∧ ob ++ [some (O.box [v0_0, v0_1, v0_2])] = ob1) ?_ ?_
      ·rintro as1 ob1 ⟨x13, h, rfl, rfl⟩
       rw [portolanref19_Right.j3] at h
       simp -implicitDefEqProofs only [go_sem, seval, f1, hi1, hq]
       cases f6 : x13
       ·rw [if_neg (ne_true_of_eq_false f6)] at h
        refine X_cond (lx_ok γ) ?_
        simp -implicitDefEqProofs only [go_sem, seval, f1, hi1, f6, hq]
        refine X_skip ?_
        try simp -implicitDefEqProofs only [go_sem]
        refine X_seq ?_
        refine X_seq ?_
        refine X_reg (lx_ok γ) ?_
        simp -implicitDefEqProofs only [go_sem, seval, f1, hi1, f6, hq]
        refine X_jq (J := fun as1 ob1 => portolanref19_Right.k2 a0 x8 = some o1 ∧ [(1, V.ref ob.length 0), (3, vint .i64 (List.length a0.Starts : Int)), (4, vint .i64 (i1 : Int)), (5, vint .i64 x8)] = as1 ∧ ob ++ [some (O.box [v0_0, v0_1, v0_2])] = ob1) ?_ ?_
        ·rintro as1 ob1 ⟨h, rfl, rfl⟩
         rw [portolanref19_Right.k2] at h
         simp -implicitDefEqProofs only [go_sem, seval, f1, hi1, f6, hq]
         refine X_seq ?_
         refine X_reg (lx_ok γ) ?_
         obtain ⟨x15, f7, h⟩ := bindE h
         obtain ⟨f8, f9, f10⟩ := ixL_some f7
         try simp only [Int.toNat_natCast, Int.reduceToNat] at f10
         simp -implicitDefEqProofs only [go_sem, seval, f1, hi1, f6, hq, f8, f9, f10]
         refine X_seq ?_
         refine X_reg (lx_ok γ) ?_
         cases f11 : (x15.Op != 21)
         ·rw [if_neg (ne_true_of_eq_false f11)] at h
          simp -implicitDefEqProofs only [go_sem, seval, f1, hi1, f6, f11, hq]
          refine X_condF (lx_ok γ) rfl ?_
          refine X_skip ?_
          try simp -implicitDefEqProofs only [go_sem]
          refine X_reg (lx_ok γ) ?_
          obtain rfl := Option.some.inj h
          simp -implicitDefEqProofs only [go_sem, seval, f1, hi1, f6, f11, hq]
          refine kR_in rfl ?_ ⟨rfl, rfl⟩
          exact To.mv [(0, 0)] (BaseR.refl hob) (by simp) (by decide) (by simp only [go_sem]; exact ⟨VM.refA (j := 0) (t := 0) rfl, VM.self (by simp), VM.eqv (by rw [hw1]) (by simp)⟩) ⟨⟨_, rfl, OM.box _ _ ⟨VM.self (by simpa using Bd.of_rdK hv0_0), VM.self (by simpa using Bd.of_rdK hv0_1), VM.self (by simpa using Bd.of_rdK hv0_2), trivial⟩⟩, trivial⟩
         ·rw [if_pos f11] at h
          cases f12 : (x15.Op != 22)
          ·rw [if_neg (ne_true_of_eq_false f12)] at h
           simp -implicitDefEqProofs only [go_sem, seval, f1, hi1, f6, f11, f12, hq]
           refine X_condF (lx_ok γ) rfl ?_
           refine X_skip ?_
           try simp -implicitDefEqProofs only [go_sem]
           refine X_reg (lx_ok γ) ?_
           obtain rfl := Option.some.inj h
           simp -implicitDefEqProofs only [go_sem, seval, f1, hi1, f6, f11, f12, hq]
           refine kR_in rfl ?_ ⟨rfl, rfl⟩
           exact To.mv [(0, 0)] (BaseR.refl hob) (by simp) (by decide) (by simp only [go_sem]; exact ⟨VM.refA (j := 0) (t := 0) rfl, VM.self (by simp), VM.eqv (by rw [hw1]) (by simp)⟩) ⟨⟨_, rfl, OM.box _ _ ⟨VM.self (by simpa using Bd.of_rdK hv0_0), VM.self (by simpa using Bd.of_rdK hv0_1), VM.self (by simpa using Bd.of_rdK hv0_2), trivial⟩⟩, trivial⟩
          ·rw [if_pos f12] at h
           simp -implicitDefEqProofs only [go_sem, seval, f1, hi1, f6, f11, f12, hq]
           cases f13 : (x15.Op != 23)
           ·rw [if_neg (ne_true_of_eq_false f13)] at h
            refine X_cond (lx_ok γ) ?_
            simp -implicitDefEqProofs only [go_sem, seval, f1, hi1, f6, f11, f12, f13, hq]
            refine X_skip ?_
            try simp -implicitDefEqProofs only [go_sem]
            refine X_reg (lx_ok γ) ?_
            obtain rfl := Option.some.inj h
            simp -implicitDefEqProofs only [go_sem, seval, f1, hi1, f6, f11, f12, f13, hq]
            refine kR_in rfl ?_ ⟨rfl, rfl⟩
            exact To.mv [(0, 0)] (BaseR.refl hob) (by simp) (by decide) (by simp only [go_sem]; exact ⟨VM.refA (j := 0) (t := 0) rfl, VM.self (by simp), VM.eqv (by rw [hw1]) (by simp)⟩) ⟨⟨_, rfl, OM.box _ _ ⟨VM.self (by simpa using Bd.of_rdK hv0_0), VM.self (by simpa using Bd.of_rdK hv0_1), VM.self (by simpa using Bd.of_rdK hv0_2), trivial⟩⟩, trivial⟩
           ·rw [if_pos f13] at h
            refine X_cond (lx_ok γ) ?_
            simp -implicitDefEqProofs only [go_sem, seval, f1, hi1, f6, f11, f12, f13, hq]
            refine X_seq ?_
            refine X_reg (lx_ok γ) ?_
            simp -implicitDefEqProofs only [go_sem, seval, f1, hi1, f6, f11, f12, f13, hq]
            obtain rfl := Option.some.inj h
            have h := hr1 _ (ho1 (fun _ hs => nomatch hs))
            obtain rfl := Option.some.inj h
            refine X_ret ?_
            simp -implicitDefEqProofs only [go_sem, seval, f1, hi1, f6, f11, f12, f13, hq]
            exact Rt.mv0 (BaseR.refl hob) (by simp) (VM.self (by simp))
        ·refine X_block ?_
         obtain ⟨lr2, hl2, hk2, hr2⟩ := aft2 h
         refine X_while hl2 (fun (s : Int) as1 ob1 => [(1, V.ref ob.length 0), (3, vint .i64 (List.length a0.Starts : Int)), (4, vint .i64 (i1 : Int)), (5, vint .i64 x8), (6, vint .i64 x9), (7, vint .i64 s)] = as1 ∧ ob ++ [some (O.box [v0_0, v0_1, v0_2])] = ob1) ⟨_, _, ?_, rfl, rfl⟩ ?_
         ·exact To.mv [(0, 0)] (BaseR.refl hob) (by simp) (by decide) (by simp only [go_sem]; exact ⟨VM.refA (j := 0) (t := 0) rfl, VM.self (by simp), VM.self (by simp), VM.self (by simp), VM.self (by simp), VM.self (by simp)⟩) ⟨⟨_, rfl, OM.box _ _ ⟨VM.self (by simpa using Bd.of_rdK hv0_0), VM.self (by simpa using Bd.of_rdK hv0_1), VM.self (by simpa using Bd.of_rdK hv0_2), trivial⟩⟩, trivial⟩
         ·rintro x14 o2 h ho2 as1 ob1 ⟨rfl, rfl⟩
          rw [portolanref19_Right.b2] at h
          refine X_seq ?_
          refine X_seq ?_
          refine X_reg (lx_ok γ) ?_
          simp -implicitDefEqProofs only [go_sem, seval, f1, hi1, f6, hq]
          cases f14 : decide (x14 < x8)
          ·rw [if_neg (ne_true_of_eq_false f14)] at h
           refine X_cond (lx_ok γ) ?_
           simp -implicitDefEqProofs only [go_sem, seval, f1, hi1, f6, f14, hq]
           obtain rfl := Option.some.inj h
           have h := hk2 _ (.inr (ho2 (fun _ hs => nomatch hs)))
           refine X_exit ?_
           try simp -implicitDefEqProofs only [go_sem, ↓reduceIte, Nat.reduceEqDiff, reduceCtorEq]
           refine kJ_in ?_ ⟨h, rfl, rfl⟩
           exact To.mv [(0, 0)] (BaseR.refl hob) (by simp) (by decide) (by simp only [go_sem]; exact ⟨VM.refA (j := 0) (t := 0) rfl, VM.self (by simp), VM.self (by simp), VM.self (by simp)⟩) ⟨⟨_, rfl, OM.box _ _ ⟨VM.self (by simpa using Bd.of_rdK hv0_0), VM.self (by simpa using Bd.of_rdK hv0_1), VM.self (by simpa using Bd.of_rdK hv0_2), trivial⟩⟩, trivial⟩
          ·rw [if_pos f14] at h
           refine X_cond (lx_ok γ) ?_
           simp -implicitDefEqProofs only [go_sem, seval, f1, hi1, f6, f14, hq]
           refine X_skip ?_
           try simp -implicitDefEqProofs only [go_sem]
           refine X_seq ?_
           refine X_block ?_
           refine X_seq ?_
           refine X_drawn (lx_ok γ) [[], [], [1], [], [1, 2, 3], [1, 2, 3, 4], [], [], [], [8], [], [8, 9, 10], [8, 9, 10, 11], [0, 1, 2, 3, 4, 5, 6, 7, 8, 9, 10, 11, 12], [0, 1, 2, 3, 4, 5, 6, 7, 8, 9, 10, 11, 12, 13]] (fun i => match i with | _ => false) (by kernel_rfl) ?_
           obtain ⟨x16, f15, h⟩ := bindE h
           obtain ⟨f16, f17, f18⟩ := ixL_some f15
           try simp only [Int.toNat_natCast, Int.reduceToNat] at f18
           obtain ⟨x17, f19, h⟩ := bindE h
           obtain ⟨f20, f21⟩ := ixL_nat f19
           have f22 : (0 : Int) ≤ (i1 : Int) := Int.natCast_nonneg _
           obtain ⟨x18, f23, h⟩ := bindE h
           try simp -implicitDefEqProofs only [go_sem, seval, f1, hi1, f6, f14, hq, f16, f17, f18, f20, f21, f22, cmpr, List.getD_cons_zero, List.getD_cons_succ, List.contains_cons, List.contains_nil, Nat.reduceBEq, Bool.false_or, Bool.or_false, Bool.true_or, Bool.or_true, beq_self_eq_true]
           refine callV_eq (portolanref19_ins_ok γ _ (by first | exact rdK_app hv0_0 | exact hv0_0) (by first | exact rdK_app hv0_1 | exact hv0_1) (by first | exact rdK_app hv0_2 | exact hv0_2) (by simp -implicitDefEqProofs only [go_sem, seval, f1, hi1, f6, f14, hq, f16, f17, f18, f20, f21, f22]; try rfl) f23) rfl rfl ?_
           try simp -implicitDefEqProofs only [go_sem, seval, f1, hi1, f6, f14, hq, f16, f17, f18, f20, f21, f22, cmpr, List.getD_cons_zero, List.getD_cons_succ, List.contains_cons, List.contains_nil, Nat.reduceBEq, Bool.false_or, Bool.or_false, Bool.true_or, Bool.or_true, beq_self_eq_true]
           cases f24 : x18
           ·rw [if_neg (ne_true_of_eq_false f24)] at h
            refine X_cond (lx_ok γ) ?_
            simp -implicitDefEqProofs only [go_sem, seval, f1, hi1, f6, f14, f24, hq, f16, f17, f18, f20, f21, f22]
            refine X_seq ?_
            refine X_reg (lx_ok γ) ?_
            simp -implicitDefEqProofs only [go_sem, seval, f1, hi1, f6, f14, f24, hq]
            obtain rfl := Option.some.inj h
            have h := hr2 _ (ho2 (fun _ hs => nomatch hs))
            obtain rfl := Option.some.inj h
            have h := hr1 _ (ho1 (fun _ hs => nomatch hs))
            obtain rfl := Option.some.inj h
            refine X_ret ?_
            simp -implicitDefEqProofs only [go_sem, seval, f1, hi1, f6, f14, f24, hq]
            exact Rt.mv0 (BaseR.refl hob) (by simp) (VM.self (by simp))
           ·rw [if_pos f24] at h
            refine X_cond (lx_ok γ) ?_
            simp -implicitDefEqProofs only [go_sem, seval, f1, hi1, f6, f14, f24, hq, f16, f17, f18, f20, f21, f22]
            refine X_skip ?_
            try simp -implicitDefEqProofs only [go_sem]
            refine X_reg (lx_ok γ) ?_
            obtain rfl := Option.some.inj h
            simp -implicitDefEqProofs only [go_sem, seval, f1, hi1, f6, f14, f24, hq]
            refine kR_in rfl ?_ ⟨rfl, rfl⟩
            exact To.mv [(0, 0)] (BaseR.refl hob) (by simp) (by decide) (by simp only [go_sem]; exact ⟨VM.refA (j := 0) (t := 0) rfl, VM.self (by simp), VM.self (by simp), VM.self (by simp), VM.self (by simp), VM.self (by simp)⟩) ⟨⟨_, rfl, OM.box _ _ ⟨VM.self (by simpa using Bd.of_rdK hv0_0), VM.self (by simpa using Bd.of_rdK hv0_1), VM.self (by simpa using Bd.of_rdK hv0_2), trivial⟩⟩, trivial⟩
       ·rw [if_pos f6] at h
        refine X_cond (lx_ok γ) ?_
        simp -implicitDefEqProofs only [go_sem, seval, f1, hi1, f6, hq]
        refine X_seq ?_
        refine X_reg (lx_ok γ) ?_
        simp -implicitDefEqProofs only [go_sem, seval, f1, hi1, f6, hq]
        obtain rfl := Option.some.inj h
        have h := hr1 _ (ho1 (fun _ hs => nomatch hs))
        obtain rfl := Option.some.inj h
        refine X_ret ?_
        simp -implicitDefEqProofs only [go_sem, seval, f1, hi1, f6, hq]
        exact Rt.mv0 (BaseR.refl hob) (by simp) (VM.self (by simp))
      ·refine X_reg (lx_ok γ) ?_
       cases f25 : decide ((List.length a0.Code : Int) < x8)
       ·rw [if_neg (ne_true_of_eq_false f25)] at h
        cases f26 : decide (x8 ≤ x9)
        ·rw [if_neg (ne_true_of_eq_false f26)] at h
         obtain ⟨x19, f27, h⟩ := bindE h
         obtain ⟨f28, f29⟩ := ixL_nat f27
         have f30 : (0 : Int) ≤ (i1 : Int) := Int.natCast_nonneg _
         cases f31 : decide (x19 < 1)
         ·rw [if_neg (ne_true_of_eq_false f31)] at h
          simp -implicitDefEqProofs only [go_sem, seval, f1, hi1, f25, f26, f31, hq, f28, f29, f30]
          refine kJ_in ?_ ⟨(decide (160 < x19)), h, rfl, rfl⟩
          exact To.mv [(0, 0)] (BaseR.refl hob) (by simp) (by decide) (by simp only [go_sem]; exact ⟨VM.refA (j := 0) (t := 0) rfl, VM.self (by simp), VM.self (by simp), VM.self (by simp), VM.self (by simp), VM.self (by simp)⟩) ⟨⟨_, rfl, OM.box _ _ ⟨VM.self (by simpa using Bd.of_rdK hv0_0), VM.self (by simpa using Bd.of_rdK hv0_1), VM.self (by simpa using Bd.of_rdK hv0_2), trivial⟩⟩, trivial⟩
         ·rw [if_pos f31] at h
          simp -implicitDefEqProofs only [go_sem, seval, f1, hi1, f25, f26, f31, hq, f28, f29, f30]
          refine kJ_in ?_ ⟨true, h, rfl, rfl⟩
          exact To.mv [(0, 0)] (BaseR.refl hob) (by simp) (by decide) (by simp only [go_sem]; exact ⟨VM.refA (j := 0) (t := 0) rfl, VM.self (by simp), VM.self (by simp), VM.self (by simp), VM.self (by simp), VM.self (by simp)⟩) ⟨⟨_, rfl, OM.box _ _ ⟨VM.self (by simpa using Bd.of_rdK hv0_0), VM.self (by simpa using Bd.of_rdK hv0_1), VM.self (by simpa using Bd.of_rdK hv0_2), trivial⟩⟩, trivial⟩
        ·rw [if_pos f26] at h
         simp -implicitDefEqProofs only [go_sem, seval, f1, hi1, f25, f26, hq]
         refine kJ_in ?_ ⟨true, h, rfl, rfl⟩
         exact To.mv [(0, 0)] (BaseR.refl hob) (by simp) (by decide) (by simp only [go_sem]; exact ⟨VM.refA (j := 0) (t := 0) rfl, VM.self (by simp), VM.self (by simp), VM.self (by simp), VM.self (by simp), VM.self (by simp)⟩) ⟨⟨_, rfl, OM.box _ _ ⟨VM.self (by simpa using Bd.of_rdK hv0_0), VM.self (by simpa using Bd.of_rdK hv0_1), VM.self (by simpa using Bd.of_rdK hv0_2), trivial⟩⟩, trivial⟩
       ·rw [if_pos f25] at h
        simp -implicitDefEqProofs only [go_sem, seval, f1, hi1, f25, hq]
        refine kJ_in ?_ ⟨true, h, rfl, rfl⟩
        exact To.mv [(0, 0)] (BaseR.refl hob) (by simp) (by decide) (by simp only [go_sem]; exact ⟨VM.refA (j := 0) (t := 0) rfl, VM.self (by simp), VM.self (by simp), VM.self (by simp), VM.self (by simp), VM.self (by simp)⟩) ⟨⟨_, rfl, OM.box _ _ ⟨VM.self (by simpa using Bd.of_rdK hv0_0), VM.self (by simpa using Bd.of_rdK hv0_1), VM.self (by simpa using Bd.of_rdK hv0_2), trivial⟩⟩, trivial⟩
     ·refine X_seq ?_
      refine X_reg (lx_ok γ) ?_
      simp -implicitDefEqProofs only [go_sem, seval, f1, hi1, hq]
      cases f32 : decide (w64 ((i1 : Int) + 1) < (List.length a0.Starts : Int))
      ·rw [if_neg (ne_true_of_eq_false f32)] at h
       refine X_cond (lx_ok γ) ?_
       simp -implicitDefEqProofs only [go_sem, seval, f1, hi1, f32, hq]
       refine X_skip ?_
       try simp -implicitDefEqProofs only [go_sem]
       refine kJ_in ?_ ⟨(List.length a0.Code : Int), h, rfl, rfl⟩
       exact To.mv [(0, 0)] (BaseR.refl hob) (by simp) (by decide) (by simp only [go_sem]; exact ⟨VM.refA (j := 0) (t := 0) rfl, VM.self (by simp), VM.self (by simp), VM.self (by simp)⟩) ⟨⟨_, rfl, OM.box _ _ ⟨VM.self (by simpa using Bd.of_rdK hv0_0), VM.self (by simpa using Bd.of_rdK hv0_1), VM.self (by simpa using Bd.of_rdK hv0_2), trivial⟩⟩, trivial⟩
      ·rw [if_pos f32] at h
       refine X_cond (lx_ok γ) ?_
       simp -implicitDefEqProofs only [go_sem, seval, f1, hi1, f32, hq]
       refine X_reg (lx_ok γ) ?_
       obtain ⟨x20, f33, h⟩ := bindE h
       obtain ⟨f34, f35, f36⟩ := ixL_some f33
       try simp only [Int.toNat_natCast, Int.reduceToNat] at f36
       simp -implicitDefEqProofs only [go_sem, seval, f1, hi1, f32, hq, f34, f35, f36]
       refine kJ_in ?_ ⟨x20, h, rfl, rfl⟩
       exact To.mv [(0, 0)] (BaseR.refl hob) (by simp) (by decide) (by simp only [go_sem]; exact ⟨VM.refA (j := 0) (t := 0) rfl, VM.self (by simp), VM.self (by simp), VM.self (by simp)⟩) ⟨⟨_, rfl, OM.box _ _ ⟨VM.self (by simpa using Bd.of_rdK hv0_0), VM.self (by simpa using Bd.of_rdK hv0_1), VM.self (by simpa using Bd.of_rdK hv0_2), trivial⟩⟩, trivial⟩
    ·rintro i1 _ hi1 hn1 as1 ob1 ⟨rfl, rfl⟩
     refine X_seq ?_
     refine X_seq ?_
     refine X_reg (lx_ok γ) ?_
     simp -implicitDefEqProofs only [go_sem, seval, f1, hi1, hq]
     refine X_cond (lx_ok γ) ?_
     simp -implicitDefEqProofs only [go_sem, seval, f1, hi1, hq]
     have h := hk1 _ (.inl hn1)
     refine X_exit ?_
     try simp -implicitDefEqProofs only [go_sem, ↓reduceIte, Nat.reduceEqDiff, reduceCtorEq]
     refine kJ_in ?_ ⟨h, rfl, rfl⟩
     exact To.mv0 (BaseR.refl hob) (by simp) trivial
  ·rw [if_pos f1] at h
   refine X_cond (lx_ok γ) ?_
   simp -implicitDefEqProofs only [go_sem, seval, f1, hq]
   refine X_seq ?_
   refine X_reg (lx_ok γ) ?_
   simp -implicitDefEqProofs only [go_sem, seval, f1, hq]
   obtain rfl := Option.some.inj h
   refine X_ret ?_
   simp -implicitDefEqProofs only [go_sem, seval, f1, hq]
   exact Rt.mv0 (BaseR.refl hob) (by simp) (VM.self (by simp))
 ·refine X_reg (lx_ok γ) ?_
  cases f37 : decide ((List.length a0.Starts : Int) < 1)
  ·rw [if_neg (ne_true_of_eq_false f37)] at h
   cases f38 : decide (8 < (List.length a0.Starts : Int))
   ·rw [if_neg (ne_true_of_eq_false f38)] at h
    cases f39 : ((List.length a0.Slots : Int) != (List.length a0.Starts : Int))
    ·rw [if_neg (ne_true_of_eq_false f39)] at h
     cases f40 : decide (8000 < (List.length a0.Code : Int))
     ·rw [if_neg (ne_true_of_eq_false f40)] at h
      obtain ⟨x21, f41, h⟩ := bindE h
      obtain ⟨f42, f43, f44⟩ := ixL_some f41
      try simp only [Int.toNat_natCast, Int.reduceToNat] at f44
      simp -implicitDefEqProofs only [go_sem, seval, f37, f38, f39, f40, hq, f43, f44]
      refine kJ_in ?_ ⟨(x21 != 0), h, rfl, rfl⟩
      exact To.mv [(0, 0)] (BaseR.refl hob) (by simp) (by decide) (by simp only [go_sem]; exact ⟨VM.refA (j := 0) (t := 0) rfl, VM.self (by simp), VM.self (by simp)⟩) ⟨⟨_, rfl, OM.box _ _ ⟨VM.self (by simpa using Bd.of_rdK hv0_0), VM.self (by simpa using Bd.of_rdK hv0_1), VM.self (by simpa using Bd.of_rdK hv0_2), trivial⟩⟩, trivial⟩
     ·rw [if_pos f40] at h
      simp -implicitDefEqProofs only [go_sem, seval, f37, f38, f39, f40, hq]
      refine kJ_in ?_ ⟨true, h, rfl, rfl⟩
      exact To.mv [(0, 0)] (BaseR.refl hob) (by simp) (by decide) (by simp only [go_sem]; exact ⟨VM.refA (j := 0) (t := 0) rfl, VM.self (by simp), VM.self (by simp)⟩) ⟨⟨_, rfl, OM.box _ _ ⟨VM.self (by simpa using Bd.of_rdK hv0_0), VM.self (by simpa using Bd.of_rdK hv0_1), VM.self (by simpa using Bd.of_rdK hv0_2), trivial⟩⟩, trivial⟩
    ·rw [if_pos f39] at h
     simp -implicitDefEqProofs only [go_sem, seval, f37, f38, f39, hq]
     refine kJ_in ?_ ⟨true, h, rfl, rfl⟩
     exact To.mv [(0, 0)] (BaseR.refl hob) (by simp) (by decide) (by simp only [go_sem]; exact ⟨VM.refA (j := 0) (t := 0) rfl, VM.self (by simp), VM.self (by simp)⟩) ⟨⟨_, rfl, OM.box _ _ ⟨VM.self (by simpa using Bd.of_rdK hv0_0), VM.self (by simpa using Bd.of_rdK hv0_1), VM.self (by simpa using Bd.of_rdK hv0_2), trivial⟩⟩, trivial⟩
   ·rw [if_pos f38] at h
    simp -implicitDefEqProofs only [go_sem, seval, f37, f38, hq]
    refine kJ_in ?_ ⟨true, h, rfl, rfl⟩
    exact To.mv [(0, 0)] (BaseR.refl hob) (by simp) (by decide) (by simp only [go_sem]; exact ⟨VM.refA (j := 0) (t := 0) rfl, VM.self (by simp), VM.self (by simp)⟩) ⟨⟨_, rfl, OM.box _ _ ⟨VM.self (by simpa using Bd.of_rdK hv0_0), VM.self (by simpa using Bd.of_rdK hv0_1), VM.self (by simpa using Bd.of_rdK hv0_2), trivial⟩⟩, trivial⟩
  ·rw [if_pos f37] at h
   simp -implicitDefEqProofs only [go_sem, seval, f37, hq]
   refine kJ_in ?_ ⟨true, h, rfl, rfl⟩
   exact To.mv [(0, 0)] (BaseR.refl hob) (by simp) (by decide) (by simp only [go_sem]; exact ⟨VM.refA (j := 0) (t := 0) rfl, VM.self (by simp), VM.self (by simp)⟩) ⟨⟨_, rfl, OM.box _ _ ⟨VM.self (by simpa using Bd.of_rdK hv0_0), VM.self (by simpa using Bd.of_rdK hv0_1), VM.self (by simpa using Bd.of_rdK hv0_2), trivial⟩⟩, trivial⟩
end Go.Pf
end
section
set_option maxRecDepth 100000
namespace Go.Pf
open Go Go.Ab Go.Pp Go.Proofs Go.Proofs.S19
attribute [local go_sem] Lxτ Lxγ gam0 Int.toNat_natCast tau3 tau5 tau28 tau79 tau80 eI eB eS e_Loc e_Mins e_Text e_text_room e_text_reader e_portolanref19_reader
set_option maxHeartbeats 1000000 in
theorem portolanref01_read_ok (γ : GT) (ob : OT) {a0 : List Int} {v0 : V} {a1 : Int} (hv0 : rdK (getO ob) 1 v0 = some (List.map (eI .u8) a0)) {r : Int × Int × Int} (h : portolanref01_read a0 a1 = some r) :
  Valid (Lx γ) 80 [v0, vint .i64 a1] ob (V.tup [vint .u64 r.1, vint .i64 r.2.1, vint .i64 r.2.2]) ob := by
 refine valid_X (lx_ok γ) (fn := Tryd.f80) (rs := [.tmp 4, .tmp 5, .tmp 6]) Tryd.func80 (by kernel_rfl) rfl rfl Tryd.ntmps80 rfl (by simp) fun hb hob => ?_
 have hq := rd4 hv0
 rw [portolanref01_read] at h
 refine X_seq ?_
 refine X_reg (lx_ok γ) ?_
 simp -implicitDefEqProofs only [go_sem, seval, hq]
 refine X_seq ?_
 refine X_reg (lx_ok γ) ?_
 simp -implicitDefEqProofs only [go_sem, seval, hq]
 refine X_seq ?_
 refine X_seq ?_
 refine X_reg (lx_ok γ) ?_
 simp -implicitDefEqProofs only [go_sem, seval, hq]
 refine X_jq (J := fun as1 ob1 => portolanref01_read.k1 a0 a1 = some r ∧ [(0, v0), (1, vint .i64 a1)] = as1 ∧ ob = ob1) ?_ ?_
 ·rintro as1 ob1 ⟨h, rfl, rfl⟩
  rw [portolanref01_read.k1] at h
  simp -implicitDefEqProofs only [go_sem, seval, hq]
  refine X_seq ?_
  refine X_seq ?_
  refine X_reg (lx_ok γ) ?_
  simp -implicitDefEqProofs only [go_sem, seval, hq]
  cases f1 : ((List.length a0 : Int) == a1)
  ·rw [if_neg (ne_true_of_eq_false f1)] at h
   refine X_cond (lx_ok γ) ?_
   simp -implicitDefEqProofs only [go_sem, seval, f1, hq]
   refine X_skip ?_
   try simp -implicitDefEqProofs only [go_sem]
   refine X_seq ?_
   refine X_reg (lx_ok γ) ?_
   simp -implicitDefEqProofs only [go_sem, seval, f1, hq]
   obtain rfl := Option.some.inj h
   refine X_ret ?_
   simp -implicitDefEqProofs only [go_sem, seval, f1, hq]
   exact Rt.mv1 (BaseR.refl hob) (by simp) (VM.tup ⟨VM.self (by simp), VM.self (by simp), VM.self (by simp), trivial⟩)
  ·rw [if_pos f1] at h
   refine X_cond (lx_ok γ) ?_
   simp -implicitDefEqProofs only [go_sem, seval, f1, hq]
   refine X_seq ?_
   refine X_reg (lx_ok γ) ?_
   simp -implicitDefEqProofs only [go_sem, seval, f1, hq]
   obtain rfl := Option.some.inj h
   refine X_ret ?_
   simp -implicitDefEqProofs only [go_sem, seval, f1, hq]
   exact Rt.mv1 (BaseR.refl hob) (by simp) (VM.tup ⟨VM.self (by simp), VM.self (by simp), VM.self (by simp), trivial⟩)
 ·refine X_block ?_
  obtain ⟨lr1, hl1, hk1, hr1⟩ := aft2 h
  refine X_forN hl1 (fun (i1 : Nat) (s : Int) as1 ob1 => [(0, v0), (1, vint .i64 a1), (7, vint .u64 s), (8, vint .i64 (i1 : Int))] = as1 ∧ ob = ob1) ⟨_, _, ?_, rfl, rfl⟩ ?_ ?_
  ·exact To.mv1 (BaseR.refl hob) (by simp) (by simp only [go_sem]; exact ⟨VM.self (by simpa using Bd.of_rdK hv0), VM.self (by simp), VM.self (by simp), VM.eqv (by simp) (by simp)⟩)
  ·rintro i1 x1 o1 hi1 hw1 h ho1 as1 ob1 ⟨rfl, rfl⟩
   rw [portolanref01_read.b1] at h
   refine X_seq ?_
   refine X_seq ?_
   refine X_reg (lx_ok γ) ?_
   simp -implicitDefEqProofs only [go_sem, seval, hi1, hq]
   refine X_cond (lx_ok γ) ?_
   simp -implicitDefEqProofs only [go_sem, seval, hi1, hq]
   refine X_skip ?_
   try simp -implicitDefEqProofs only [go_sem]
   refine X_seq ?_
   refine X_block ?_
   refine X_seq ?_
   refine X_seq ?_
   refine X_reg (lx_ok γ) ?_
   simp -implicitDefEqProofs only [go_sem, seval, hi1, hq]
   cases f2 : ((i1 : Int) == a1)
   ·rw [if_neg (ne_true_of_eq_false f2)] at h
    refine X_cond (lx_ok γ) ?_
    simp -implicitDefEqProofs only [go_sem, seval, hi1, f2, hq]
    refine X_skip ?_
    try simp -implicitDefEqProofs only [go_sem]
    refine X_seq ?_
    refine X_jq (J := fun as1 ob1 => portolanref01_read.j1 a0 x1 i1 = some o1 ∧ [(0, v0), (1, vint .i64 a1), (7, vint .u64 x1), (8, vint .i64 (i1 : Int))] = as1 ∧ ob = ob1) ?_ ?_
    ·rintro as1 ob1 ⟨h, rfl, rfl⟩
     rw [portolanref01_read.j1] at h
     simp -implicitDefEqProofs only [go_sem, seval, hi1, f2, hq]
     refine X_seq ?_
     refine X_reg (lx_ok γ) ?_
     obtain ⟨x3, f3, h⟩ := bindE h
     obtain ⟨f4, f5⟩ := ixL_nat f3
     have f6 : (0 : Int) ≤ (i1 : Int) := Int.natCast_nonneg _
     obtain ⟨x4, f7, h⟩ := bindE h
     have f8 : ¬ (u64 (w64 (7 * (i1 : Int)))) < 0 := of_decide_eq_true (chkB_some f7).1
     simp -implicitDefEqProofs only [go_sem, seval, hi1, f2, hq, f4, f5, f6, f8]
     refine X_seq ?_
     refine X_reg (lx_ok γ) ?_
     simp -implicitDefEqProofs only [go_sem, seval, hi1, f2, hq, f4, f5, f6]
     cases f9 : decide (x3 < 128)
     ·rw [if_neg (ne_true_of_eq_false f9)] at h
      refine X_cond (lx_ok γ) ?_
      simp -implicitDefEqProofs only [go_sem, seval, hi1, f2, f9, hq, f4, f5, f6]
      refine X_skip ?_
      try simp -implicitDefEqProofs only [go_sem]
      refine X_reg (lx_ok γ) ?_
      obtain rfl := Option.some.inj h
      simp -implicitDefEqProofs only [go_sem, seval, hi1, f2, f9, hq]
      refine kR_in rfl ?_ ⟨rfl, rfl⟩
      exact To.mv1 (BaseR.refl hob) (by simp) (by simp only [go_sem]; exact ⟨VM.self (by simpa using Bd.of_rdK hv0), VM.self (by simp), VM.self (by simp), VM.eqv (by rw [hw1]) (by simp)⟩)
     ·rw [if_pos f9] at h
      refine X_cond (lx_ok γ) ?_
      simp -implicitDefEqProofs only [go_sem, seval, hi1, f2, f9, hq, f4, f5, f6]
      refine X_seq ?_
      refine X_seq ?_
      refine X_jq (J := fun as1 ob1 => ∃ (x6 : Bool), portolanref01_read.j2 x1 x3 x6 i1 = some o1 ∧ [(7, vint .u64 (u64 (x1 + (u64 (shlE (u64 (Int.tmod x3 128)) (u64 (w64 (7 * (i1 : Int)))) 64))))), (8, vint .i64 (i1 : Int)), (53, vbool x6)] = as1 ∧ ob = ob1) ?_ ?_
      ·rintro as1 ob1 ⟨x6, h, rfl, rfl⟩
       rw [portolanref01_read.j2] at h
       simp -implicitDefEqProofs only [go_sem, seval, hi1, f2, f9, hq]
       cases f10 : x6
       ·rw [if_neg (ne_true_of_eq_false f10)] at h
        refine X_cond (lx_ok γ) ?_
        simp -implicitDefEqProofs only [go_sem, seval, hi1, f2, f9, f10, hq]
        refine X_skip ?_
        try simp -implicitDefEqProofs only [go_sem]
        refine X_seq ?_
        refine X_reg (lx_ok γ) ?_
        simp -implicitDefEqProofs only [go_sem, seval, hi1, f2, f9, f10, hq]
        obtain rfl := Option.some.inj h
        have h := hr1 _ (ho1 (fun _ hs => nomatch hs))
        obtain rfl := Option.some.inj h
        refine X_ret ?_
        simp -implicitDefEqProofs only [go_sem, seval, hi1, f2, f9, f10, hq]
        exact Rt.mv1 (BaseR.refl hob) (by simp) (VM.tup ⟨VM.self (by simp), VM.self (by simp), VM.self (by simp), trivial⟩)
       ·rw [if_pos f10] at h
        refine X_cond (lx_ok γ) ?_
        simp -implicitDefEqProofs only [go_sem, seval, hi1, f2, f9, f10, hq]
        refine X_seq ?_
        refine X_reg (lx_ok γ) ?_
        simp -implicitDefEqProofs only [go_sem, seval, hi1, f2, f9, f10, hq]
        obtain rfl := Option.some.inj h
        have h := hr1 _ (ho1 (fun _ hs => nomatch hs))
        obtain rfl := Option.some.inj h
        refine X_ret ?_
        simp -implicitDefEqProofs only [go_sem, seval, hi1, f2, f9, f10, hq]
        exact Rt.mv1 (BaseR.refl hob) (by simp) (VM.tup ⟨VM.self (by simp), VM.self (by simp), VM.self (by simp), trivial⟩)
      ·refine X_reg (lx_ok γ) ?_
       cases f11 : (x3 == 0)
       ·rw [if_neg (ne_true_of_eq_false f11)] at h
        simp -implicitDefEqProofs only [go_sem, seval, hi1, f2, f9, f11, hq, f4, f5, f6]
        refine kJ_in ?_ ⟨false, h, rfl, rfl⟩
        exact To.mv1 (BaseR.refl hob) (by simp) (by simp only [go_sem]; exact ⟨VM.self (by simp), VM.self (by simp), VM.self (by simp)⟩)
       ·rw [if_pos f11] at h
        simp -implicitDefEqProofs only [go_sem, seval, hi1, f2, f9, f11, hq, f4, f5, f6]
        refine kJ_in ?_ ⟨(decide (0 < (i1 : Int))), h, rfl, rfl⟩
        exact To.mv1 (BaseR.refl hob) (by simp) (by simp only [go_sem]; exact ⟨VM.self (by simp), VM.self (by simp), VM.self (by simp)⟩)
    ·refine X_seq ?_
     refine X_reg (lx_ok γ) ?_
     cases f12 : ((i1 : Int) == 9)
     ·rw [if_neg (ne_true_of_eq_false f12)] at h
      simp -implicitDefEqProofs only [go_sem, seval, hi1, f2, f12, hq]
      refine X_condF (lx_ok γ) rfl ?_
      refine X_skip ?_
      try simp -implicitDefEqProofs only [go_sem]
      refine kJ_in ?_ ⟨h, rfl, rfl⟩
      exact To.mv1 (BaseR.refl hob) (by simp) (by simp only [go_sem]; exact ⟨VM.self (by simpa using Bd.of_rdK hv0), VM.self (by simp), VM.self (by simp), VM.self (by simp)⟩)
     ·rw [if_pos f12] at h
      obtain ⟨x7, f13, h⟩ := bindE h
      obtain ⟨f14, f15⟩ := ixL_nat f13
      have f16 : (0 : Int) ≤ (i1 : Int) := Int.natCast_nonneg _
      simp -implicitDefEqProofs only [go_sem, seval, hi1, f2, f12, hq, f14, f15, f16]
      cases f17 : decide (1 < Int.tmod x7 128)
      ·rw [if_neg (ne_true_of_eq_false f17)] at h
       refine X_cond (lx_ok γ) ?_
       simp -implicitDefEqProofs only [go_sem, seval, hi1, f2, f12, f17, hq, f14, f15, f16]
       refine X_skip ?_
       try simp -implicitDefEqProofs only [go_sem]
       refine kJ_in ?_ ⟨h, rfl, rfl⟩
       exact To.mv1 (BaseR.refl hob) (by simp) (by simp only [go_sem]; exact ⟨VM.self (by simpa using Bd.of_rdK hv0), VM.self (by simp), VM.self (by simp), VM.self (by simp)⟩)
      ·rw [if_pos f17] at h
       refine X_cond (lx_ok γ) ?_
       simp -implicitDefEqProofs only [go_sem, seval, hi1, f2, f12, f17, hq, f14, f15, f16]
       refine X_seq ?_
       refine X_reg (lx_ok γ) ?_
       simp -implicitDefEqProofs only [go_sem, seval, hi1, f2, f12, f17, hq]
       obtain rfl := Option.some.inj h
       have h := hr1 _ (ho1 (fun _ hs => nomatch hs))
       obtain rfl := Option.some.inj h
       refine X_ret ?_
       simp -implicitDefEqProofs only [go_sem, seval, hi1, f2, f12, f17, hq]
       exact Rt.mv1 (BaseR.refl hob) (by simp) (VM.tup ⟨VM.self (by simp), VM.self (by simp), VM.self (by simp), trivial⟩)
   ·rw [if_pos f2] at h
    refine X_cond (lx_ok γ) ?_
    simp -implicitDefEqProofs only [go_sem, seval, hi1, f2, hq]
    refine X_seq ?_
    refine X_reg (lx_ok γ) ?_
    simp -implicitDefEqProofs only [go_sem, seval, hi1, f2, hq]
    obtain rfl := Option.some.inj h
    have h := hr1 _ (ho1 (fun _ hs => nomatch hs))
    obtain rfl := Option.some.inj h
    refine X_ret ?_
    simp -implicitDefEqProofs only [go_sem, seval, hi1, f2, hq]
    exact Rt.mv1 (BaseR.refl hob) (by simp) (VM.tup ⟨VM.self (by simp), VM.self (by simp), VM.self (by simp), trivial⟩)
  ·rintro i1 x1 hi1 hn1 as1 ob1 ⟨rfl, rfl⟩
   refine X_seq ?_
   refine X_seq ?_
   refine X_reg (lx_ok γ) ?_
   simp -implicitDefEqProofs only [go_sem, seval, hi1, hq]
   refine X_cond (lx_ok γ) ?_
   simp -implicitDefEqProofs only [go_sem, seval, hi1, hq]
   have h := hk1 _ (.inl hn1)
   refine X_exit ?_
   try simp -implicitDefEqProofs only [go_sem, ↓reduceIte, Nat.reduceEqDiff, reduceCtorEq]
   refine kJ_in ?_ ⟨h, rfl, rfl⟩
   exact To.mv1 (BaseR.refl hob) (by simp) (by simp only [go_sem]; exact ⟨VM.self (by simpa using Bd.of_rdK hv0), VM.self (by simp)⟩)
end Go.Pf
end
section
set_option maxRecDepth 100000
namespace Go.Pf
open Go Go.Ab Go.Pp Go.Proofs Go.Proofs.S19
attribute [local go_sem] Lxτ Lxγ gam0 Int.toNat_natCast tau3 tau5 tau28 tau79 eI eB eS e_Loc e_Mins e_Text e_text_room e_text_reader e_portolanref19_reader
set_option maxHeartbeats 1000000 in
theorem portolanref01_Get_ok (γ : GT) (ob : OT) {a0 : List Int} {v0 : V} (hv0 : rdK (getO ob) 1 v0 = some (List.map (eI .u8) a0)) {r : Int × Int × Int} (h : portolanref01_Get a0 = some r) :
  Valid (Lx γ) 68 [v0] ob (V.tup [vint .i64 r.1, vint .i64 r.2.1, vint .i64 r.2.2]) ob := by
 refine valid_X (lx_ok γ) (fn := Tryd.f68) (rs := [.tmp 2, .tmp 3, .tmp 4]) Tryd.func68 (by kernel_rfl) rfl rfl Tryd.ntmps68 rfl (by simp) fun hb hob => ?_
 have hq := rd4 hv0
 rw [portolanref01_Get] at h
 refine X_seq ?_
 refine X_reg (lx_ok γ) ?_
 simp -implicitDefEqProofs only [go_sem, seval, hq]
 refine X_seq ?_
 refine X_reg (lx_ok γ) ?_
 obtain ⟨x1, f1, h⟩ := bindE h
 simp -implicitDefEqProofs only [go_sem, seval, hq]
 refine callV_eq (portolanref01_read_ok γ _ (by first | exact rdK_app hv0 | exact hv0) f1) rfl rfl ?_
 simp -implicitDefEqProofs only [go_sem, seval, hq]
 refine X_seq ?_
 refine X_reg (lx_ok γ) ?_
 simp -implicitDefEqProofs only [go_sem, seval, hq]
 obtain rfl := Option.some.inj h
 refine X_ret ?_
 simp -implicitDefEqProofs only [go_sem, seval, hq]
 exact Rt.mv1 (BaseR.refl hob) (by simp) (VM.tup ⟨VM.self (by simp), VM.self (by simp), VM.self (by simp), trivial⟩)
end Go.Pf
end
section
set_option maxRecDepth 100000
namespace Go.Pf
open Go Go.Ab Go.Pp Go.Proofs Go.Proofs.S19
attribute [local go_sem] Lxτ Lxγ gam0 Int.toNat_natCast tau3 tau5 tau28 tau79 eI eB eS e_Loc e_Mins e_Text e_text_room e_text_reader e_portolanref19_reader
set_option maxHeartbeats 1000000 in
theorem portolanref01_GetSigned_ok (γ : GT) (ob : OT) {a0 : List Int} {v0 : V} (hv0 : rdK (getO ob) 1 v0 = some (List.map (eI .u8) a0)) {r : Int × Int × Int} (h : portolanref01_GetSigned a0 = some r) :
  Valid (Lx γ) 69 [v0] ob (V.tup [vint .i64 r.1, vint .i64 r.2.1, vint .i64 r.2.2]) ob := by
 refine valid_X (lx_ok γ) (fn := Tryd.f69) (rs := [.tmp 2, .tmp 3, .tmp 4]) Tryd.func69 (by kernel_rfl) rfl rfl Tryd.ntmps69 rfl (by simp) fun hb hob => ?_
 have hq := rd4 hv0
 rw [portolanref01_GetSigned] at h
 refine X_seq ?_
 refine X_reg (lx_ok γ) ?_
 simp -implicitDefEqProofs only [go_sem, seval, hq]
 refine X_seq ?_
 refine X_reg (lx_ok γ) ?_
 obtain ⟨x1, f1, h⟩ := bindE h
 simp -implicitDefEqProofs only [go_sem, seval, hq]
 refine callV_eq (portolanref01_read_ok γ _ (by first | exact rdK_app hv0 | exact hv0) f1) rfl rfl ?_
 simp -implicitDefEqProofs only [go_sem, seval, hq]
 refine X_seq ?_
 refine X_seq ?_
 refine X_reg (lx_ok γ) ?_
 simp -implicitDefEqProofs only [go_sem, seval, hq]
 cases f2 : (Int.tmod x1.1 2 == 1)
 ·rw [if_neg (ne_true_of_eq_false f2)] at h
  refine X_cond (lx_ok γ) ?_
  simp -implicitDefEqProofs only [go_sem, seval, f2, hq]
  refine X_skip ?_
  try simp -implicitDefEqProofs only [go_sem]
  refine X_seq ?_
  refine X_reg (lx_ok γ) ?_
  simp -implicitDefEqProofs only [go_sem, seval, f2, hq]
  obtain rfl := Option.some.inj h
  refine X_ret ?_
  simp -implicitDefEqProofs only [go_sem, seval, f2, hq]
  exact Rt.mv1 (BaseR.refl hob) (by simp) (VM.tup ⟨VM.self (by simp), VM.self (by simp), VM.self (by simp), trivial⟩)
 ·rw [if_pos f2] at h
  refine X_cond (lx_ok γ) ?_
  simp -implicitDefEqProofs only [go_sem, seval, f2, hq]
  refine X_seq ?_
  refine X_reg (lx_ok γ) ?_
  simp -implicitDefEqProofs only [go_sem, seval, f2, hq]
  obtain rfl := Option.some.inj h
  refine X_ret ?_
  simp -implicitDefEqProofs only [go_sem, seval, f2, hq]
  exact Rt.mv1 (BaseR.refl hob) (by simp) (VM.tup ⟨VM.self (by simp), VM.self (by simp), VM.self (by simp), trivial⟩)
end Go.Pf
end
section
set_option maxRecDepth 100000
namespace Go.Pf
open Go Go.Ab Go.Pp Go.Proofs Go.Proofs.S19
attribute [local go_sem] Lxτ Lxγ gam0 Int.toNat_natCast tau3 tau5 tau28 tau29 tau73 eI eB eS e_Loc e_Mins e_Text e_text_room e_text_reader e_portolanref19_reader
set_option maxHeartbeats 1000000 in
theorem portolanref19_reader_num_ok (γ : GT) (ob : OT) {o0 : Nat} {a0 : portolanref19_reader} {a1 : Bool} {a2 : Int} {a3 : Int} (hx0 : getO ob o0 = some (O.box [V.tr (.sl 1 false (List.map (eI .u8) a0.b)), vint .i64 a0.err])) {r : portolanref19_reader × Int} (h : portolanref19_reader_num a0 a1 a2 a3 = some r) :
  Valid (Lx γ) 42 [V.ref o0 0, vbool a1, vint .i64 a2, vint .i64 a3] ob (vint .i64 r.2) (List.set ob o0 (some (O.box [V.tr (.sl 1 false (List.map (eI .u8) r.1.b)), vint .i64 r.1.err]))) := by
 refine valid_X (lx_ok γ) (fn := Tryd.f42) (rs := [.tmp 8]) Tryd.func42 (by kernel_rfl) rfl rfl Tryd.ntmps42 rfl (by simp) fun hb hob => ?_
 have hoa0 := getO_lt hx0
 refine X_ob (set_own hx0) ?_
 have hsA : ∀ (x : Option O) (l : OT), getO (List.set ob o0 x ++ l) o0 = x := fun _ _ => getO_selfA hoa0
 have hsB : ∀ (x : Option O), getO (List.set ob o0 x) o0 = x := fun _ => getO_self hoa0
 have hsC : ∀ (x y : Option O) (l : OT), List.set (List.set ob o0 x ++ l) o0 y = List.set ob o0 y ++ l := fun _ _ _ => set_selfA hoa0
 rw [portolanref19_reader_num] at h
 refine X_seq ?_
 refine X_reg (lx_ok γ) ?_
 simp -implicitDefEqProofs only [go_sem, seval, hsA, hsB, hsC]
 refine X_seq ?_
 refine X_seq ?_
 refine X_reg (lx_ok γ) ?_
 simp -implicitDefEqProofs only [go_sem, seval, hsA, hsB, hsC]
 cases f1 : (a0.err != 0)
 ·rw [if_neg (ne_true_of_eq_false f1)] at h
  refine X_cond (lx_ok γ) ?_
  simp -implicitDefEqProofs only [go_sem, seval, f1, hsA, hsB, hsC]
  refine X_skip ?_
  try simp -implicitDefEqProofs only [go_sem]
  refine X_seq ?_
  refine X_reg (lx_ok γ) ?_
  obtain ⟨x1, f2, h⟩ := bindE h
  simp -implicitDefEqProofs only [go_sem, seval, f1, hsA, hsB, hsC]
  refine callV_eq (portolanref01_Get_ok γ _ (by simp -implicitDefEqProofs only [go_sem, seval, f1, hsA, hsB, hsC]; try rfl) f2) rfl rfl ?_
  simp -implicitDefEqProofs only [go_sem, seval, f1, hsA, hsB, hsC]
  refine X_seq ?_
  refine X_jq (J := fun as1 ob1 => ∃ (x3 : Int) (x5 : Int) (x7 : Int), portolanref19_reader_num.j1 a0 a2 a3 x3 x5 x7 = some r ∧ [(0, V.ref o0 0), (2, vint .i64 a2), (3, vint .i64 a3), (9, vint .i64 x3), (10, vint .i64 x5), (11, vint .i64 x7)] = as1 ∧ (List.set ob o0 (some (O.box [V.tr (.sl 1 false (List.map (eI .u8) a0.b)), vint .i64 a0.err]))) = ob1) ?_ ?_
  ·rintro as1 ob1 ⟨x3, x5, x7, h, rfl, rfl⟩
   rw [portolanref19_reader_num.j1] at h
   simp -implicitDefEqProofs only [go_sem, seval, f1, hsA, hsB, hsC]
   refine X_seq ?_
   refine X_jq (J := fun as1 ob1 => ∃ (x10 : Int), portolanref19_reader_num.j2 a0 x3 x5 x10 = some r ∧ [(0, V.ref o0 0), (9, vint .i64 x3), (10, vint .i64 x5), (11, vint .i64 x10)] = as1 ∧ (List.set ob o0 (some (O.box [V.tr (.sl 1 false (List.map (eI .u8) a0.b)), vint .i64 a0.err]))) = ob1) ?_ ?_
   ·rintro as1 ob1 ⟨x10, h, rfl, rfl⟩
    rw [portolanref19_reader_num.j2] at h
    simp -implicitDefEqProofs only [go_sem, seval, f1, hsA, hsB, hsC]
    refine X_seq ?_
    refine X_seq ?_
    refine X_reg (lx_ok γ) ?_
    simp -implicitDefEqProofs only [go_sem, seval, f1, hsA, hsB, hsC]
    cases f3 : (x10 != 0)
    ·rw [if_neg (ne_true_of_eq_false f3)] at h
     refine X_cond (lx_ok γ) ?_
     simp -implicitDefEqProofs only [go_sem, seval, f1, f3, hsA, hsB, hsC]
     refine X_skip ?_
     try simp -implicitDefEqProofs only [go_sem]
     refine X_seq ?_
     refine X_reg (lx_ok γ) ?_
     obtain ⟨x11, f4, h⟩ := bindE h
     obtain ⟨f5, f6, f7, f8⟩ := tailL_some2 f4
     try simp only [Int.toNat_natCast, Int.reduceToNat] at f6 f7 f8
     simp -implicitDefEqProofs only [go_sem, seval, f1, f3, hsA, hsB, hsC, f5, f6, f7, f8]
     refine X_seq ?_
     refine X_reg (lx_ok γ) ?_
     simp -implicitDefEqProofs only [go_sem, seval, f1, f3, hsA, hsB, hsC]
     obtain rfl := Option.some.inj h
     refine X_ret ?_
     simp -implicitDefEqProofs only [go_sem, seval, f1, f3, hsA, hsB, hsC]
     exact Rt.mv1 (BaseR.set hob (.box _ _ (by exact ⟨VLe.self (by simp [*]), VLe.self (by simp [*]), trivial⟩))) (by simp) (VM.self (by simp))
    ·rw [if_pos f3] at h
     refine X_cond (lx_ok γ) ?_
     simp -implicitDefEqProofs only [go_sem, seval, f1, f3, hsA, hsB, hsC]
     refine X_seq ?_
     refine X_reg (lx_ok γ) ?_
     simp -implicitDefEqProofs only [go_sem, seval, f1, f3, hsA, hsB, hsC]
     refine X_seq ?_
     refine X_reg (lx_ok γ) ?_
     simp -implicitDefEqProofs only [go_sem, seval, f1, f3, hsA, hsB, hsC]
     obtain rfl := Option.some.inj h
     refine X_ret ?_
     simp -implicitDefEqProofs only [go_sem, seval, f1, f3, hsA, hsB, hsC]
     exact Rt.mv1 (BaseR.set hob (.box _ _ (by exact ⟨VLe.self (by simp [*]), VLe.self (by simp [*]), trivial⟩))) (by simp) (VM.self (by simp))
   ·refine X_seq ?_
    refine X_reg (lx_ok γ) ?_
    cases f9 : (x7 == 0)
    ·rw [if_neg (ne_true_of_eq_false f9)] at h
     simp -implicitDefEqProofs only [go_sem, seval, f1, f9, hsA, hsB, hsC]
     refine X_condF (lx_ok γ) rfl ?_
     refine X_skip ?_
     try simp -implicitDefEqProofs only [go_sem]
     refine kJ_in ?_ ⟨x7, h, rfl, rfl⟩
     exact To.mv1 (BaseR.set hob (.box _ _ (by exact ⟨VLe.self (by simp [*]), VLe.self (by simp [*]), trivial⟩))) (by simp) (by simp only [go_sem]; exact ⟨VM.self (by simp [*]), VM.self (by simp), VM.self (by simp), VM.self (by simp)⟩)
    ·rw [if_pos f9] at h
     cases f10 : decide (x3 < a2)
     ·rw [if_neg (ne_true_of_eq_false f10)] at h
      simp -implicitDefEqProofs only [go_sem, seval, f1, f9, f10, hsA, hsB, hsC]
      cases f11 : decide (a3 < x3)
      ·rw [if_neg (ne_true_of_eq_false f11)] at h
       refine X_cond (lx_ok γ) ?_
       simp -implicitDefEqProofs only [go_sem, seval, f1, f9, f10, f11, hsA, hsB, hsC]
       refine X_skip ?_
       try simp -implicitDefEqProofs only [go_sem]
       refine kJ_in ?_ ⟨x7, h, rfl, rfl⟩
       exact To.mv1 (BaseR.set hob (.box _ _ (by exact ⟨VLe.self (by simp [*]), VLe.self (by simp [*]), trivial⟩))) (by simp) (by simp only [go_sem]; exact ⟨VM.self (by simp [*]), VM.self (by simp), VM.self (by simp), VM.self (by simp)⟩)
      ·rw [if_pos f11] at h
       refine X_cond (lx_ok γ) ?_
       simp -implicitDefEqProofs only [go_sem, seval, f1, f9, f10, f11, hsA, hsB, hsC]
       refine X_reg (lx_ok γ) ?_
       simp -implicitDefEqProofs only [go_sem, seval, f1, f9, f10, f11, hsA, hsB, hsC]
       refine kJ_in ?_ ⟨5, h, rfl, rfl⟩
       exact To.mv1 (BaseR.set hob (.box _ _ (by exact ⟨VLe.self (by simp [*]), VLe.self (by simp [*]), trivial⟩))) (by simp) (by simp only [go_sem]; exact ⟨VM.self (by simp [*]), VM.self (by simp), VM.self (by simp), VM.self (by simp)⟩)
     ·rw [if_pos f10] at h
      simp -implicitDefEqProofs only [go_sem, seval, f1, f9, f10, hsA, hsB, hsC]
      refine X_condT (lx_ok γ) rfl ?_
      refine X_reg (lx_ok γ) ?_
      simp -implicitDefEqProofs only [go_sem, seval, f1, f9, f10, hsA, hsB, hsC]
      refine kJ_in ?_ ⟨5, h, rfl, rfl⟩
      exact To.mv1 (BaseR.set hob (.box _ _ (by exact ⟨VLe.self (by simp [*]), VLe.self (by simp [*]), trivial⟩))) (by simp) (by simp only [go_sem]; exact ⟨VM.self (by simp [*]), VM.self (by simp), VM.self (by simp), VM.self (by simp)⟩)
  ·refine X_seq ?_
   refine X_reg (lx_ok γ) ?_
   simp -implicitDefEqProofs only [go_sem, seval, f1, hsA, hsB, hsC]
   cases f12 : a1
   ·rw [if_neg (ne_true_of_eq_false f12)] at h
    refine X_cond (lx_ok γ) ?_
    simp -implicitDefEqProofs only [go_sem, seval, f1, f12, hsA, hsB, hsC]
    refine X_skip ?_
    try simp -implicitDefEqProofs only [go_sem]
    refine kJ_in ?_ ⟨x1.1, x1.2.1, x1.2.2, h, rfl, rfl⟩
    exact To.mv1 (BaseR.set hob (.box _ _ (by exact ⟨VLe.self (by simp [*]), VLe.self (by simp [*]), trivial⟩))) (by simp) (by simp only [go_sem]; exact ⟨VM.self (by simp [*]), VM.self (by simp), VM.self (by simp), VM.self (by simp), VM.self (by simp), VM.self (by simp)⟩)
   ·rw [if_pos f12] at h
    refine X_cond (lx_ok γ) ?_
    simp -implicitDefEqProofs only [go_sem, seval, f1, f12, hsA, hsB, hsC]
    refine X_reg (lx_ok γ) ?_
    obtain ⟨x12, f13, h⟩ := bindE h
    simp -implicitDefEqProofs only [go_sem, seval, f1, f12, hsA, hsB, hsC]
    refine callV_eq (portolanref01_GetSigned_ok γ _ (by simp -implicitDefEqProofs only [go_sem, seval, f1, f12, hsA, hsB, hsC]; try rfl) f13) rfl rfl ?_
    simp -implicitDefEqProofs only [go_sem, seval, f1, f12, hsA, hsB, hsC]
    refine kJ_in ?_ ⟨x12.1, x12.2.1, x12.2.2, h, rfl, rfl⟩
    exact To.mv1 (BaseR.set hob (.box _ _ (by exact ⟨VLe.self (by simp [*]), VLe.self (by simp [*]), trivial⟩))) (by simp) (by simp only [go_sem]; exact ⟨VM.self (by simp [*]), VM.self (by simp), VM.self (by simp), VM.self (by simp), VM.self (by simp), VM.self (by simp)⟩)
 ·rw [if_pos f1] at h
  refine X_cond (lx_ok γ) ?_
  simp -implicitDefEqProofs only [go_sem, seval, f1, hsA, hsB, hsC]
  refine X_seq ?_
  refine X_reg (lx_ok γ) ?_
  simp -implicitDefEqProofs only [go_sem, seval, f1, hsA, hsB, hsC]
  obtain rfl := Option.some.inj h
  refine X_ret ?_
  simp -implicitDefEqProofs only [go_sem, seval, f1, hsA, hsB, hsC]
  exact Rt.mv1 (BaseR.set hob (.box _ _ (by exact ⟨VLe.self (by simp [*]), VLe.self (by simp [*]), trivial⟩))) (by simp) (VM.self (by simp))
end Go.Pf
end
section
set_option maxRecDepth 100000
namespace Go.Pf
open Go Go.Ab Go.Pp Go.Proofs Go.Proofs.S19
attribute [local go_sem] Lxτ Lxγ gam0 Int.toNat_natCast tau3 tau46 eI eB eS e_Loc e_Mins e_Text e_text_room e_text_reader e_portolanref19_reader
set_option maxHeartbeats 1000000 in
theorem portolanref19_Uncode_ok (γ : GT) (ob : OT) {a0 : Int} {r : Loc × Bool} (h : portolanref19_Uncode a0 = some r) :
  Valid (Lx γ) 81 [vint .i64 a0] ob (V.tup [V.agg [vint .i64 r.1.Kind, vint .i64 r.1.N], vbool r.2]) ob := by
 refine valid_X (lx_ok γ) (fn := Tryd.f81) (rs := [.cell 2 46, .tmp 3]) Tryd.func81 (by kernel_rfl) rfl rfl Tryd.ntmps81 rfl (by simp) fun hb hob => ?_
 rw [portolanref19_Uncode] at h
 refine X_seq ?_
 refine X_reg (lx_ok γ) ?_
 simp -implicitDefEqProofs only [go_sem, seval]
 refine X_seq ?_
 refine X_jq (J := fun as1 ob1 => portolanref19_Uncode.j1 a0 = some r ∧ [(0, vint .i64 a0), (2, V.ref ob.length 0)] = as1 ∧ ob ++ [some (O.box [vint .i64 0, vint .i64 0])] = ob1) ?_ ?_
 ·rintro as1 ob1 ⟨h, rfl, rfl⟩
  rw [portolanref19_Uncode.j1] at h
  simp -implicitDefEqProofs only [go_sem, seval]
  refine X_seq ?_
  refine X_seq ?_
  refine X_reg (lx_ok γ) ?_
  simp -implicitDefEqProofs only [go_sem, seval]
  cases f1 : (Int.tmod a0 2 == 1)
  ·rw [if_neg (ne_true_of_eq_false f1)] at h
   refine X_cond (lx_ok γ) ?_
   simp -implicitDefEqProofs only [go_sem, seval, f1]
   refine X_skip ?_
   try simp -implicitDefEqProofs only [go_sem]
   refine X_seq ?_
   refine X_reg (lx_ok γ) ?_
   simp -implicitDefEqProofs only [go_sem, seval, f1]
   obtain rfl := Option.some.inj h
   refine X_ret ?_
   simp -implicitDefEqProofs only [go_sem, seval, f1]
   exact Rt.mv0 (BaseR.refl hob) (by simp) (VM.tup ⟨VM.agg ⟨VM.self (by simp), VM.self (by simp), trivial⟩, VM.self (by simp), trivial⟩)
  ·rw [if_pos f1] at h
   refine X_cond (lx_ok γ) ?_
   simp -implicitDefEqProofs only [go_sem, seval, f1]
   refine X_seq ?_
   refine X_reg (lx_ok γ) ?_
   simp -implicitDefEqProofs only [go_sem, seval, f1]
   obtain rfl := Option.some.inj h
   refine X_ret ?_
   simp -implicitDefEqProofs only [go_sem, seval, f1]
   exact Rt.mv0 (BaseR.refl hob) (by simp) (VM.tup ⟨VM.agg ⟨VM.self (by simp), VM.self (by simp), trivial⟩, VM.self (by simp), trivial⟩)
 ·refine X_seq ?_
  refine X_reg (lx_ok γ) ?_
  cases f2 : decide (a0 ≤ 0)
  ·rw [if_neg (ne_true_of_eq_false f2)] at h
   cases f3 : (Int.tmod a0 2 == 1)
   ·rw [if_neg (ne_true_of_eq_false f3)] at h
    simp -implicitDefEqProofs only [go_sem, seval, f2, f3]
    refine X_condF (lx_ok γ) rfl ?_
    refine X_skip ?_
    try simp -implicitDefEqProofs only [go_sem]
    refine kJ_in ?_ ⟨h, rfl, rfl⟩
    exact To.mv [(0, 0)] (BaseR.refl hob) (by simp) (by decide) (by simp only [go_sem]; exact ⟨VM.self (by simp), VM.refA (j := 0) (t := 0) rfl⟩) ⟨⟨_, rfl, OM.box _ _ ⟨VM.self (by simp), VM.self (by simp), trivial⟩⟩, trivial⟩
   ·rw [if_pos f3] at h
    simp -implicitDefEqProofs only [go_sem, seval, f2, f3]
    cases f4 : decide (31 < w64 (Int.tdiv a0 2))
    ·rw [if_neg (ne_true_of_eq_false f4)] at h
     refine X_cond (lx_ok γ) ?_
     simp -implicitDefEqProofs only [go_sem, seval, f2, f3, f4]
     refine X_skip ?_
     try simp -implicitDefEqProofs only [go_sem]
     refine kJ_in ?_ ⟨h, rfl, rfl⟩
     exact To.mv [(0, 0)] (BaseR.refl hob) (by simp) (by decide) (by simp only [go_sem]; exact ⟨VM.self (by simp), VM.refA (j := 0) (t := 0) rfl⟩) ⟨⟨_, rfl, OM.box _ _ ⟨VM.self (by simp), VM.self (by simp), trivial⟩⟩, trivial⟩
    ·rw [if_pos f4] at h
     refine X_cond (lx_ok γ) ?_
     simp -implicitDefEqProofs only [go_sem, seval, f2, f3, f4]
     refine X_seq ?_
     refine X_reg (lx_ok γ) ?_
     simp -implicitDefEqProofs only [go_sem, seval, f2, f3, f4]
     obtain rfl := Option.some.inj h
     refine X_ret ?_
     simp -implicitDefEqProofs only [go_sem, seval, f2, f3, f4]
     exact Rt.mv0 (BaseR.refl hob) (by simp) (VM.tup ⟨VM.agg ⟨VM.self (by simp), VM.self (by simp), trivial⟩, VM.self (by simp), trivial⟩)
  ·rw [if_pos f2] at h
   simp -implicitDefEqProofs only [go_sem, seval, f2]
   refine X_condT (lx_ok γ) rfl ?_
   refine X_seq ?_
   refine X_reg (lx_ok γ) ?_
   simp -implicitDefEqProofs only [go_sem, seval, f2]
   obtain rfl := Option.some.inj h
   refine X_ret ?_
   simp -implicitDefEqProofs only [go_sem, seval, f2]
   exact Rt.mv0 (BaseR.refl hob) (by simp) (VM.tup ⟨VM.agg ⟨VM.self (by simp), VM.self (by simp), trivial⟩, VM.self (by simp), trivial⟩)
end Go.Pf
end
section
set_option maxRecDepth 100000
namespace Go.Pf
open Go Go.Ab Go.Pp Go.Proofs Go.Proofs.S19
attribute [local go_sem] Lxτ Lxγ gam0 Int.toNat_natCast tau3 tau4 tau5 tau28 tau29 tau46 tau73 tau98 eI eB eS e_Loc e_Mins e_Text e_text_room e_text_reader e_portolanref19_reader
set_option maxHeartbeats 1000000 in
theorem portolanref19_reader_loc_ok (γ : GT) (ob : OT) {o0 : Nat} {a0 : portolanref19_reader} (hx0 : getO ob o0 = some (O.box [V.tr (.sl 1 false (List.map (eI .u8) a0.b)), vint .i64 a0.err])) {r : portolanref19_reader × Loc} (h : portolanref19_reader_loc a0 = some r) :
  Valid (Lx γ) 70 [V.ref o0 0] ob (V.agg [vint .i64 r.2.Kind, vint .i64 r.2.N]) (List.set ob o0 (some (O.box [V.tr (.sl 1 false (List.map (eI .u8) r.1.b)), vint .i64 r.1.err]))) := by
 refine valid_X (lx_ok γ) (fn := Tryd.f70) (rs := [.cell 2 46]) Tryd.func70 (by kernel_rfl) rfl rfl Tryd.ntmps70 rfl (by simp) fun hb hob => ?_
 have hoa0 := getO_lt hx0
 refine X_ob (set_own hx0) ?_
 have hsA : ∀ (x : Option O) (l : OT), getO (List.set ob o0 x ++ l) o0 = x := fun _ _ => getO_selfA hoa0
 have hsB : ∀ (x : Option O), getO (List.set ob o0 x) o0 = x := fun _ => getO_self hoa0
 have hsC : ∀ (x y : Option O) (l : OT), List.set (List.set ob o0 x ++ l) o0 y = List.set ob o0 y ++ l := fun _ _ _ => set_selfA hoa0
 rw [portolanref19_reader_loc] at h
 refine X_seq ?_
 refine X_reg (lx_ok γ) ?_
 simp -implicitDefEqProofs only [go_sem, seval, hsA, hsB, hsC]
 refine X_seq ?_
 refine X_reg (lx_ok γ) ?_
 obtain ⟨x1, f1, h⟩ := bindE h
 simp -implicitDefEqProofs only [go_sem, seval, hsA, hsB, hsC]
 refine callV_eq (portolanref19_reader_num_ok γ _ (by simp -implicitDefEqProofs only [go_sem, seval, hsA, hsB, hsC]; try rfl) f1) rfl rfl ?_
 simp -implicitDefEqProofs only [go_sem, seval, hsA, hsB, hsC]
 refine X_seq ?_
 refine X_seq ?_
 refine X_reg (lx_ok γ) ?_
 simp -implicitDefEqProofs only [go_sem, seval, hsA, hsB, hsC]
 cases f2 : (x1.1.err != 0)
 ·rw [if_neg (ne_true_of_eq_false f2)] at h
  refine X_cond (lx_ok γ) ?_
  simp -implicitDefEqProofs only [go_sem, seval, f2, hsA, hsB, hsC]
  refine X_skip ?_
  try simp -implicitDefEqProofs only [go_sem]
  refine X_seq ?_
  refine X_reg (lx_ok γ) ?_
  obtain ⟨x2, f3, h⟩ := bindE h
  simp -implicitDefEqProofs only [go_sem, seval, f2, hsA, hsB, hsC]
  refine callV_eq (portolanref19_Uncode_ok γ _  f3) rfl rfl ?_
  simp -implicitDefEqProofs only [go_sem, seval, f2, hsA, hsB, hsC]
  refine X_seq ?_
  refine X_seq ?_
  refine X_reg (lx_ok γ) ?_
  simp -implicitDefEqProofs only [go_sem, seval, f2, hsA, hsB, hsC]
  cases f4 : x2.2
  ·rw [if_neg (ne_true_of_eq_false f4)] at h
   refine X_cond (lx_ok γ) ?_
   simp -implicitDefEqProofs only [go_sem, seval, f2, f4, hsA, hsB, hsC]
   refine X_reg (lx_ok γ) ?_
   simp -implicitDefEqProofs only [go_sem, seval, f2, f4, hsA, hsB, hsC]
   refine X_seq ?_
   refine X_reg (lx_ok γ) ?_
   simp -implicitDefEqProofs only [go_sem, seval, f2, f4, hsA, hsB, hsC]
   obtain rfl := Option.some.inj h
   refine X_ret ?_
   simp -implicitDefEqProofs only [go_sem, seval, f2, f4, hsA, hsB, hsC]
   exact Rt.mv0 (BaseR.set hob (.box _ _ (by exact ⟨VLe.self (by simp [*]), VLe.self (by simp [*]), trivial⟩))) (by simp) (VM.agg ⟨VM.self (by simp), VM.self (by simp), trivial⟩)
  ·rw [if_pos f4] at h
   refine X_cond (lx_ok γ) ?_
   simp -implicitDefEqProofs only [go_sem, seval, f2, f4, hsA, hsB, hsC]
   refine X_skip ?_
   try simp -implicitDefEqProofs only [go_sem]
   refine X_seq ?_
   refine X_reg (lx_ok γ) ?_
   simp -implicitDefEqProofs only [go_sem, seval, f2, f4, hsA, hsB, hsC]
   obtain rfl := Option.some.inj h
   refine X_ret ?_
   simp -implicitDefEqProofs only [go_sem, seval, f2, f4, hsA, hsB, hsC]
   exact Rt.mv0 (BaseR.set hob (.box _ _ (by exact ⟨VLe.self (by simp [*]), VLe.self (by simp [*]), trivial⟩))) (by simp) (VM.agg ⟨VM.self (by simp), VM.self (by simp), trivial⟩)
 ·rw [if_pos f2] at h
  refine X_cond (lx_ok γ) ?_
  simp -implicitDefEqProofs only [go_sem, seval, f2, hsA, hsB, hsC]
  refine X_seq ?_
  refine X_reg (lx_ok γ) ?_
  simp -implicitDefEqProofs only [go_sem, seval, f2, hsA, hsB, hsC]
  obtain rfl := Option.some.inj h
  refine X_ret ?_
  simp -implicitDefEqProofs only [go_sem, seval, f2, hsA, hsB, hsC]
  exact Rt.mv0 (BaseR.set hob (.box _ _ (by exact ⟨VLe.self (by simp [*]), VLe.self (by simp [*]), trivial⟩))) (by simp) (VM.agg ⟨VM.self (by simp), VM.self (by simp), trivial⟩)
end Go.Pf
end
section
set_option maxRecDepth 100000
namespace Go.Pf
open Go Go.Ab Go.Pp Go.Proofs Go.Proofs.S19
attribute [local go_sem] Lxτ Lxγ gam0 Int.toNat_natCast tau3 tau4 tau5 tau9 tau28 tau29 tau46 tau47 tau49 tau73 tau98 eI eB eS e_Loc e_Mins e_Text e_text_room e_text_reader e_portolanref19_reader
set_option maxHeartbeats 1000000 in
theorem portolanref19_reader_ins_ok (γ : GT) (ob : OT) {o0 : Nat} {a0 : portolanref19_reader} (hx0 : getO ob o0 = some (O.box [V.tr (.sl 1 false (List.map (eI .u8) a0.b)), vint .i64 a0.err])) {r : portolanref19_reader × Mins} (h : portolanref19_reader_ins a0 = some r) :
  Valid (Lx γ) 43 [V.ref o0 0] ob (V.agg [vint .i64 r.2.Op, vint .i64 r.2.D.Kind, vint .i64 r.2.D.N, vint .i64 r.2.A.Kind, vint .i64 r.2.A.N, vint .i64 r.2.B.Kind, vint .i64 r.2.B.N, vint .i64 r.2.C.Kind, vint .i64 r.2.C.N, vint .i64 r.2.N, vint .i64 r.2.M, V.row ob.length 0 0 (List.length r.2.Args)]) ((List.set ob o0 (some (O.box [V.tr (.sl 1 false (List.map (eI .u8) r.1.b)), vint .i64 r.1.err]))) ++ [some (O.row 2 0 (List.map e_Loc r.2.Args))]) := by
 refine valid_X (lx_ok γ) (fn := Tryd.f43) (rs := [.cell 2 49]) Tryd.func43 (by kernel_rfl) rfl rfl Tryd.ntmps43 rfl (by simp) fun hb hob => ?_
 have hoa0 := getO_lt hx0
 refine X_ob (set_own hx0) ?_
 have hsA : ∀ (x : Option O) (l : OT), getO (List.set ob o0 x ++ l) o0 = x := fun _ _ => getO_selfA hoa0
 have hsB : ∀ (x : Option O), getO (List.set ob o0 x) o0 = x := fun _ => getO_self hoa0
 have hsC : ∀ (x y : Option O) (l : OT), List.set (List.set ob o0 x ++ l) o0 y = List.set ob o0 y ++ l := fun _ _ _ => set_selfA hoa0
 rw [portolanref19_reader_ins] at h
 refine X_seq ?_
 refine X_reg (lx_ok γ) ?_
 simp -implicitDefEqProofs only [go_sem, seval, hsA, hsB, hsC]
 refine X_seq ?_
 refine X_reg (lx_ok γ) ?_
 obtain ⟨x1, f1, h⟩ := bindE h
 simp -implicitDefEqProofs only [go_sem, seval, hsA, hsB, hsC]
 refine callV_eq (portolanref19_reader_num_ok γ _ (by simp -implicitDefEqProofs only [go_sem, seval, hsA, hsB, hsC]; try rfl) f1) rfl rfl ?_
 simp -implicitDefEqProofs only [go_sem, seval, hsA, hsB, hsC]
 refine X_seq ?_
 refine X_reg (lx_ok γ) ?_
 obtain ⟨x2, f2, h⟩ := bindE h
 simp -implicitDefEqProofs only [go_sem, seval, hsA, hsB, hsC]
 refine callV_eq (portolanref19_Parts_ok γ _  f2) rfl rfl ?_
 simp -implicitDefEqProofs only [go_sem, seval, hsA, hsB, hsC]
 refine X_seq ?_
 refine X_jq (J := fun as1 ob1 => ∃ (x3 : Int), portolanref19_reader_ins.j1 x1 x2 x3 = some r ∧ [(0, V.ref o0 0), (2, V.ref ob.length 0), (3, V.ref (ob.length + 1) 0), (4, vstr x2.1)] = as1 ∧ (List.set ob o0 (some (O.box [V.tr (.sl 1 false (List.map (eI .u8) x1.1.b)), vint .i64 x3]))) ++ [some (O.box [vint .i64 0, vint .i64 0, vint .i64 0, vint .i64 0, vint .i64 0, vint .i64 0, vint .i64 0, vint .i64 0, vint .i64 0, vint .i64 0, vint .i64 0, V.tr (.sl 0 true [])]), some (O.box [vint .i64 x1.2, vint .i64 0, vint .i64 0, vint .i64 0, vint .i64 0, vint .i64 0, vint .i64 0, vint .i64 0, vint .i64 0, vint .i64 0, vint .i64 0, V.tr (.sl 0 true [])])] = ob1) ?_ ?_
 ·rintro as1 ob1 ⟨x3, h, rfl, rfl⟩
  rw [portolanref19_reader_ins.j1] at h
  simp -implicitDefEqProofs only [go_sem, seval, hsA, hsB, hsC]
  refine X_seq ?_
  refine X_seq ?_
  refine X_reg (lx_ok γ) ?_
  simp -implicitDefEqProofs only [go_sem, seval, hsA, hsB, hsC]
  refine X_jq (J := fun as1 ob1 => ∃ (x4 : List Loc) (x5 : Int) (x6 : Int) (x7 : Int) (x8 : Int) (x9 : Int) (x10 : Int) (x11 : Int) (x12 : Int) (x13 : Int) (x14 : Int) (x15 : List Int) (x16 : Int), portolanref19_reader_ins.k1 x1 x4 x5 x6 x7 x8 x9 x10 x11 x12 x13 x14 x15 x16 = some r ∧ [(2, V.ref ob.length 0), (3, V.ref (ob.length + 1) 0)] = as1 ∧ (List.set ob o0 (some (O.box [V.tr (.sl 1 false (List.map (eI .u8) x15)), vint .i64 x16]))) ++ [some (O.box [vint .i64 0, vint .i64 0, vint .i64 0, vint .i64 0, vint .i64 0, vint .i64 0, vint .i64 0, vint .i64 0, vint .i64 0, vint .i64 0, vint .i64 0, V.tr (.sl 0 true [])]), some (O.box [vint .i64 x1.2, vint .i64 x5, vint .i64 x6, vint .i64 x7, vint .i64 x8, vint .i64 x9, vint .i64 x10, vint .i64 x11, vint .i64 x12, vint .i64 x13, vint .i64 x14, V.row (ob.length + 2) 0 0 (List.length x4)]), some (O.row 2 0 (List.map e_Loc x4))] = ob1) ?_ ?_
  ·rintro as1 ob1 ⟨x4, x5, x6, x7, x8, x9, x10, x11, x12, x13, x14, x15, x16, h, rfl, rfl⟩
   rw [portolanref19_reader_ins.k1] at h
   simp -implicitDefEqProofs only [go_sem, seval, hsA, hsB, hsC]
   refine X_seq ?_
   refine X_reg (lx_ok γ) ?_
   simp -implicitDefEqProofs only [go_sem, seval, hsA, hsB, hsC]
   obtain rfl := Option.some.inj h
   refine X_ret ?_
   simp -implicitDefEqProofs only [go_sem, seval, hsA, hsB, hsC]
   exact Rt.mv [(2, 0)] (BaseR.set hob (.box _ _ (by exact ⟨VLe.self (by simp [*]), VLe.self (by simp [*]), trivial⟩))) (by simp) (by decide) (VM.agg ⟨VM.self (by simp), VM.self (by simp), VM.self (by simp), VM.self (by simp), VM.self (by simp), VM.self (by simp), VM.self (by simp), VM.self (by simp), VM.self (by simp), VM.self (by simp), VM.self (by simp), VM.rowL (j := 2) (t := 0) rfl (by first | rfl | simp | simp_all | omega), trivial⟩) ⟨⟨_, rfl, OM.row' (by first | rfl | simp_all)⟩, trivial⟩
  ·refine X_block ?_
   obtain ⟨lr1, hl1, hk1, hr1⟩ := aft2 h
   refine X_forN hl1 (fun (i1 : Nat) (s : (List Loc) × Int × Int × Int × Int × Int × Int × Int × Int × Int × Int × (List Int) × Int) as1 ob1 => [(0, V.ref o0 0), (2, V.ref ob.length 0), (3, V.ref (ob.length + 1) 0), (4, vstr x2.1), (6, vint .i64 (i1 : Int))] = as1 ∧ (List.set ob o0 (some (O.box [V.tr (.sl 1 false (List.map (eI .u8) s.2.2.2.2.2.2.2.2.2.2.2.1)), vint .i64 s.2.2.2.2.2.2.2.2.2.2.2.2]))) ++ [some (O.box [vint .i64 0, vint .i64 0, vint .i64 0, vint .i64 0, vint .i64 0, vint .i64 0, vint .i64 0, vint .i64 0, vint .i64 0, vint .i64 0, vint .i64 0, V.tr (.sl 0 true [])]), some (O.box [vint .i64 x1.2, vint .i64 s.2.1, vint .i64 s.2.2.1, vint .i64 s.2.2.2.1, vint .i64 s.2.2.2.2.1, vint .i64 s.2.2.2.2.2.1, vint .i64 s.2.2.2.2.2.2.1, vint .i64 s.2.2.2.2.2.2.2.1, vint .i64 s.2.2.2.2.2.2.2.2.1, vint .i64 s.2.2.2.2.2.2.2.2.2.1, vint .i64 s.2.2.2.2.2.2.2.2.2.2.1, V.row (ob.length + 2) 0 0 (List.length s.1)]), some (O.row 2 0 (List.map e_Loc s.1))] = ob1) ⟨_, _, ?_, rfl, rfl⟩ ?_ ?_
   ·exact To.trans (To.gh (as' := [(0, _), (2, _), (3, _), (4, _), (6, _)]) (l' := [some (O.box [_, _, _, _, _, _, _, _, _, _, _, _]), some (O.box [_, _, _, _, _, _, _, _, _, _, _, V.row (ob.length + 2) 0 0 0])]) 2 ⟨VG.refl _ _ _, VG.refl _ _ _, VG.refl _ _ _, VG.refl _ _ _, VG.refl _ _ _, trivial⟩ ⟨Or.inl rfl, Or.inr ⟨_, _, rfl, rfl, .box _ _ ⟨VG.refl _ _ _, VG.refl _ _ _, VG.refl _ _ _, VG.refl _ _ _, VG.refl _ _ _, VG.refl _ _ _, VG.refl _ _ _, VG.refl _ _ _, VG.refl _ _ _, VG.refl _ _ _, VG.refl _ _ _, VG.nilL, trivial⟩⟩, trivial⟩) (To.mv [(0, 0), (1, 0), (2, 0)] (BaseR.set hob (.box _ _ (by exact ⟨VLe.self (by simp [*]), VLe.self (by simp [*]), trivial⟩))) (by simp) (by decide) (by simp only [go_sem]; exact ⟨VM.self (by simp [*]), VM.refA (j := 0) (t := 0) rfl, VM.refA (j := 1) (t := 1) rfl, VM.self (by simp), VM.eqv (by simp) (by simp)⟩) ⟨⟨_, rfl, OM.box _ _ ⟨VM.self (by simp), VM.self (by simp), VM.self (by simp), VM.self (by simp), VM.self (by simp), VM.self (by simp), VM.self (by simp), VM.self (by simp), VM.self (by simp), VM.self (by simp), VM.self (by simp), VM.self (by simp), trivial⟩⟩, ⟨_, rfl, OM.box _ _ ⟨VM.self (by simp), VM.self (by simp), VM.self (by simp), VM.self (by simp), VM.self (by simp), VM.self (by simp), VM.self (by simp), VM.self (by simp), VM.self (by simp), VM.self (by simp), VM.self (by simp), VM.rowL (j := 2) (t := 2) rfl (by simp), trivial⟩⟩, ⟨_, rfl, OM.row' rfl⟩, trivial⟩)
   ·rintro i1 ⟨x4, x5, x6, x7, x8, x9, x10, x11, x12, x13, x14, x15, x16⟩ o1 hi1 hw1 h ho1 as1 ob1 ⟨rfl, rfl⟩
    rw [portolanref19_reader_ins.b1] at h
    refine X_seq ?_
    refine X_seq ?_
    refine X_reg (lx_ok γ) ?_
    simp -implicitDefEqProofs only [go_sem, seval, hi1, hsA, hsB, hsC]
    cases f3 : (x16 == 0)
    ·rw [if_neg (ne_true_of_eq_false f3)] at h
     refine X_cond (lx_ok γ) ?_
     simp -implicitDefEqProofs only [go_sem, seval, hi1, f3, hsA, hsB, hsC]
     obtain rfl := Option.some.inj h
     have h := hk1 _ (.inr (ho1 (fun _ hs => nomatch hs)))
     refine X_exit ?_
     try simp -implicitDefEqProofs only [go_sem, ↓reduceIte, Nat.reduceEqDiff, reduceCtorEq]
     refine kJ_in ?_ ⟨x4, x5, x6, x7, x8, x9, x10, x11, x12, x13, x14, x15, x16, h, rfl, rfl⟩
     exact To.mv [(0, 0), (1, 0), (2, 0)] (BaseR.set hob (.box _ _ (by exact ⟨VLe.self (by simp [*]), VLe.self (by simp [*]), trivial⟩))) (by simp) (by decide) (by simp only [go_sem]; exact ⟨VM.refA (j := 0) (t := 0) rfl, VM.refA (j := 1) (t := 1) rfl⟩) ⟨⟨_, rfl, OM.box _ _ ⟨VM.self (by simp), VM.self (by simp), VM.self (by simp), VM.self (by simp), VM.self (by simp), VM.self (by simp), VM.self (by simp), VM.self (by simp), VM.self (by simp), VM.self (by simp), VM.self (by simp), VM.self (by simp), trivial⟩⟩, ⟨_, rfl, OM.box _ _ ⟨VM.self (by simp), VM.self (by simp), VM.self (by simp), VM.self (by simp), VM.self (by simp), VM.self (by simp), VM.self (by simp), VM.self (by simp), VM.self (by simp), VM.self (by simp), VM.self (by simp), VM.rowL (j := 2) (t := 2) rfl (by first | rfl | simp | simp_all | omega), trivial⟩⟩, ⟨_, rfl, OM.row' (by first | rfl | simp_all)⟩, trivial⟩
    ·rw [if_pos f3] at h
     refine X_cond (lx_ok γ) ?_
     simp -implicitDefEqProofs only [go_sem, seval, hi1, f3, hsA, hsB, hsC]
     refine X_skip ?_
     try simp -implicitDefEqProofs only [go_sem]
     refine X_seq ?_
     refine X_block ?_
     refine X_seq ?_
     refine X_reg (lx_ok γ) ?_
     obtain ⟨x18, f4, h⟩ := bindE h
     obtain ⟨f5, f6, f7, f8⟩ := ixS_some f4
     try simp only [Int.toNat_natCast, Int.reduceToNat] at f7
     replace f8 := f8.symm
     simp -implicitDefEqProofs only [go_sem, seval, hi1, f3, hsA, hsB, hsC, f5, f7, f8]
     refine X_block ?_
     refine X_seq ?_
     refine X_reg (lx_ok γ) ?_
     simp -implicitDefEqProofs only [go_sem, seval, hi1, f3, hsA, hsB, hsC]
     cases f9 : (x18 == 68)
     ·rw [if_neg (ne_true_of_eq_false f9)] at h
      refine X_cond (lx_ok γ) ?_
      simp -implicitDefEqProofs only [go_sem, seval, hi1, f3, f9, hsA, hsB, hsC]
      refine X_seq ?_
      refine X_reg (lx_ok γ) ?_
      simp -implicitDefEqProofs only [go_sem, seval, hi1, f3, f9, hsA, hsB, hsC]
      cases f10 : (x18 == 65)
      ·rw [if_neg (ne_true_of_eq_false f10)] at h
       refine X_cond (lx_ok γ) ?_
       simp -implicitDefEqProofs only [go_sem, seval, hi1, f3, f9, f10, hsA, hsB, hsC]
       refine X_seq ?_
       refine X_reg (lx_ok γ) ?_
       simp -implicitDefEqProofs only [go_sem, seval, hi1, f3, f9, f10, hsA, hsB, hsC]
       cases f11 : (x18 == 66)
       ·rw [if_neg (ne_true_of_eq_false f11)] at h
        refine X_cond (lx_ok γ) ?_
        simp -implicitDefEqProofs only [go_sem, seval, hi1, f3, f9, f10, f11, hsA, hsB, hsC]
        refine X_seq ?_
        refine X_reg (lx_ok γ) ?_
        simp -implicitDefEqProofs only [go_sem, seval, hi1, f3, f9, f10, f11, hsA, hsB, hsC]
        cases f12 : (x18 == 67)
        ·rw [if_neg (ne_true_of_eq_false f12)] at h
         refine X_cond (lx_ok γ) ?_
         simp -implicitDefEqProofs only [go_sem, seval, hi1, f3, f9, f10, f11, f12, hsA, hsB, hsC]
         refine X_seq ?_
         refine X_reg (lx_ok γ) ?_
         simp -implicitDefEqProofs only [go_sem, seval, hi1, f3, f9, f10, f11, f12, hsA, hsB, hsC]
         cases f13 : (x18 == 78)
         ·rw [if_neg (ne_true_of_eq_false f13)] at h
          refine X_cond (lx_ok γ) ?_
          simp -implicitDefEqProofs only [go_sem, seval, hi1, f3, f9, f10, f11, f12, f13, hsA, hsB, hsC]
          refine X_seq ?_
          refine X_reg (lx_ok γ) ?_
          simp -implicitDefEqProofs only [go_sem, seval, hi1, f3, f9, f10, f11, f12, f13, hsA, hsB, hsC]
          cases f14 : (x18 == 77)
          ·rw [if_neg (ne_true_of_eq_false f14)] at h
           refine X_cond (lx_ok γ) ?_
           simp -implicitDefEqProofs only [go_sem, seval, hi1, f3, f9, f10, f11, f12, f13, f14, hsA, hsB, hsC]
           refine X_seq ?_
           refine X_reg (lx_ok γ) ?_
           simp -implicitDefEqProofs only [go_sem, seval, hi1, f3, f9, f10, f11, f12, f13, f14, hsA, hsB, hsC]
           cases f15 : (x18 == 110)
           ·rw [if_neg (ne_true_of_eq_false f15)] at h
            refine X_cond (lx_ok γ) ?_
            simp -implicitDefEqProofs only [go_sem, seval, hi1, f3, f9, f10, f11, f12, f13, f14, f15, hsA, hsB, hsC]
            refine X_seq ?_
            refine X_reg (lx_ok γ) ?_
            simp -implicitDefEqProofs only [go_sem, seval, hi1, f3, f9, f10, f11, f12, f13, f14, f15, hsA, hsB, hsC]
            cases f16 : (x18 == 76)
            ·rw [if_neg (ne_true_of_eq_false f16)] at h
             refine X_cond (lx_ok γ) ?_
             simp -implicitDefEqProofs only [go_sem, seval, hi1, f3, f9, f10, f11, f12, f13, f14, f15, f16, hsA, hsB, hsC]
             refine X_skip ?_
             try simp -implicitDefEqProofs only [go_sem]
             refine X_reg (lx_ok γ) ?_
             obtain rfl := Option.some.inj h
             simp -implicitDefEqProofs only [go_sem, seval, hi1, f3, f9, f10, f11, f12, f13, f14, f15, f16, hsA, hsB, hsC]
             refine kR_in rfl ?_ ⟨rfl, rfl⟩
             exact To.mv [(0, 0), (1, 0), (2, 0)] (BaseR.set hob (.box _ _ (by exact ⟨VLe.self (by simp [*]), VLe.self (by simp [*]), trivial⟩))) (by simp) (by decide) (by simp only [go_sem]; exact ⟨VM.self (by simp [*]), VM.refA (j := 0) (t := 0) rfl, VM.refA (j := 1) (t := 1) rfl, VM.self (by simp), VM.eqv (by rw [hw1]) (by simp)⟩) ⟨⟨_, rfl, OM.box _ _ ⟨VM.self (by simp), VM.self (by simp), VM.self (by simp), VM.self (by simp), VM.self (by simp), VM.self (by simp), VM.self (by simp), VM.self (by simp), VM.self (by simp), VM.self (by simp), VM.self (by simp), VM.self (by simp), trivial⟩⟩, ⟨_, rfl, OM.box _ _ ⟨VM.self (by simp), VM.self (by simp), VM.self (by simp), VM.self (by simp), VM.self (by simp), VM.self (by simp), VM.self (by simp), VM.self (by simp), VM.self (by simp), VM.self (by simp), VM.self (by simp), VM.rowL (j := 2) (t := 2) rfl (by first | rfl | simp | simp_all | omega), trivial⟩⟩, ⟨_, rfl, OM.row' (by first | rfl | simp_all)⟩, trivial⟩
            ·rw [if_pos f16] at h
             refine X_cond (lx_ok γ) ?_
             simp -implicitDefEqProofs only [go_sem, seval, hi1, f3, f9, f10, f11, f12, f13, f14, f15, f16, hsA, hsB, hsC]
             refine X_seq ?_
             refine X_reg (lx_ok γ) ?_
             obtain ⟨x19, f17, h⟩ := bindE h
             simp -implicitDefEqProofs only [go_sem, seval, hi1, f3, f9, f10, f11, f12, f13, f14, f15, f16, hsA, hsB, hsC]
             refine callV_eq (portolanref19_reader_num_ok γ _ (by simp -implicitDefEqProofs only [go_sem, seval, hi1, f3, f9, f10, f11, f12, f13, f14, f15, f16, hsA, hsB, hsC]; try rfl) f17) rfl rfl ?_
             simp -implicitDefEqProofs only [go_sem, seval, hi1, f3, f9, f10, f11, f12, f13, f14, f15, f16, hsA, hsB, hsC]
             refine X_jq (J := fun as1 ob1 => ∃ (x20 : List Loc) (x21 : List Int) (x22 : Int), portolanref19_reader_ins.k2 x5 x6 x7 x8 x9 x10 x11 x12 x13 x14 x20 x21 x22 = some o1 ∧ [(0, V.ref o0 0), (2, V.ref ob.length 0), (3, V.ref (ob.length + 1) 0), (4, vstr x2.1), (6, vint .i64 (i1 : Int))] = as1 ∧ (List.set ob o0 (some (O.box [V.tr (.sl 1 false (List.map (eI .u8) x21)), vint .i64 x22]))) ++ [some (O.box [vint .i64 0, vint .i64 0, vint .i64 0, vint .i64 0, vint .i64 0, vint .i64 0, vint .i64 0, vint .i64 0, vint .i64 0, vint .i64 0, vint .i64 0, V.tr (.sl 0 true [])]), some (O.box [vint .i64 x1.2, vint .i64 x5, vint .i64 x6, vint .i64 x7, vint .i64 x8, vint .i64 x9, vint .i64 x10, vint .i64 x11, vint .i64 x12, vint .i64 x13, vint .i64 x14, V.row (ob.length + 2) 0 0 (List.length x20)]), some (O.row 2 0 (List.map e_Loc x20))] = ob1) ?_ ?_
             ·rintro as1 ob1 ⟨x20, x21, x22, h, rfl, rfl⟩
              rw [portolanref19_reader_ins.k2] at h
              simp -implicitDefEqProofs only [go_sem, seval, hi1, f3, f9, f10, f11, f12, f13, f14, f15, f16, hsA, hsB, hsC]
              refine X_reg (lx_ok γ) ?_
              obtain rfl := Option.some.inj h
              simp -implicitDefEqProofs only [go_sem, seval, hi1, f3, f9, f10, f11, f12, f13, f14, f15, f16, hsA, hsB, hsC]
              refine kR_in rfl ?_ ⟨rfl, rfl⟩
              exact To.mv [(0, 0), (1, 0), (2, 0)] (BaseR.set hob (.box _ _ (by exact ⟨VLe.self (by simp [*]), VLe.self (by simp [*]), trivial⟩))) (by simp) (by decide) (by simp only [go_sem]; exact ⟨VM.self (by simp [*]), VM.refA (j := 0) (t := 0) rfl, VM.refA (j := 1) (t := 1) rfl, VM.self (by simp), VM.eqv (by rw [hw1]) (by simp)⟩) ⟨⟨_, rfl, OM.box _ _ ⟨VM.self (by simp), VM.self (by simp), VM.self (by simp), VM.self (by simp), VM.self (by simp), VM.self (by simp), VM.self (by simp), VM.self (by simp), VM.self (by simp), VM.self (by simp), VM.self (by simp), VM.self (by simp), trivial⟩⟩, ⟨_, rfl, OM.box _ _ ⟨VM.self (by simp), VM.self (by simp), VM.self (by simp), VM.self (by simp), VM.self (by simp), VM.self (by simp), VM.self (by simp), VM.self (by simp), VM.self (by simp), VM.self (by simp), VM.self (by simp), VM.rowL (j := 2) (t := 2) rfl (by first | rfl | simp | simp_all | omega), trivial⟩⟩, ⟨_, rfl, OM.row' (by first | rfl | simp_all)⟩, trivial⟩
             ·refine X_block ?_
              obtain ⟨lr2, hl2, hk2, hr2⟩ := aft2 h
              refine X_while hl2 (fun (s : (List Loc) × (List Int) × Int × Int) as1 ob1 => [(0, V.ref o0 0), (2, V.ref ob.length 0), (3, V.ref (ob.length + 1) 0), (4, vstr x2.1), (6, vint .i64 (i1 : Int)), (7, vint .i64 s.2.2.2)] = as1 ∧ (List.set ob o0 (some (O.box [V.tr (.sl 1 false (List.map (eI .u8) s.2.1)), vint .i64 s.2.2.1]))) ++ [some (O.box [vint .i64 0, vint .i64 0, vint .i64 0, vint .i64 0, vint .i64 0, vint .i64 0, vint .i64 0, vint .i64 0, vint .i64 0, vint .i64 0, vint .i64 0, V.tr (.sl 0 true [])]), some (O.box [vint .i64 x1.2, vint .i64 x5, vint .i64 x6, vint .i64 x7, vint .i64 x8, vint .i64 x9, vint .i64 x10, vint .i64 x11, vint .i64 x12, vint .i64 x13, vint .i64 x14, V.row (ob.length + 2) 0 0 (List.length s.1)]), some (O.row 2 0 (List.map e_Loc s.1))] = ob1) ⟨_, _, ?_, rfl, rfl⟩ ?_
              ·exact To.mv [(0, 0), (1, 0), (2, 0)] (BaseR.set hob (.box _ _ (by exact ⟨VLe.self (by simp [*]), VLe.self (by simp [*]), trivial⟩))) (by simp) (by decide) (by simp only [go_sem]; exact ⟨VM.self (by simp [*]), VM.refA (j := 0) (t := 0) rfl, VM.refA (j := 1) (t := 1) rfl, VM.self (by simp), VM.self (by simp), VM.self (by simp)⟩) ⟨⟨_, rfl, OM.box _ _ ⟨VM.self (by simp), VM.self (by simp), VM.self (by simp), VM.self (by simp), VM.self (by simp), VM.self (by simp), VM.self (by simp), VM.self (by simp), VM.self (by simp), VM.self (by simp), VM.self (by simp), VM.self (by simp), trivial⟩⟩, ⟨_, rfl, OM.box _ _ ⟨VM.self (by simp), VM.self (by simp), VM.self (by simp), VM.self (by simp), VM.self (by simp), VM.self (by simp), VM.self (by simp), VM.self (by simp), VM.self (by simp), VM.self (by simp), VM.self (by simp), VM.rowL (j := 2) (t := 2) rfl (by first | rfl | simp | simp_all | omega), trivial⟩⟩, ⟨_, rfl, OM.row' (by first | rfl | simp_all)⟩, trivial⟩
              ·rintro ⟨x20, x21, x22, x23⟩ o2 h ho2 as1 ob1 ⟨rfl, rfl⟩
               rw [portolanref19_reader_ins.b2] at h
               refine X_seq ?_
               refine X_seq ?_
               refine X_reg (lx_ok γ) ?_
               simp -implicitDefEqProofs only [go_sem, seval, hi1, f3, f9, f10, f11, f12, f13, f14, f15, f16, hsA, hsB, hsC]
               cases f18 : decide (0 < x23)
               ·rw [if_neg (ne_true_of_eq_false f18)] at h
                refine X_cond (lx_ok γ) ?_
                simp -implicitDefEqProofs only [go_sem, seval, hi1, f3, f9, f10, f11, f12, f13, f14, f15, f16, f18, hsA, hsB, hsC]
                obtain rfl := Option.some.inj h
                have h := hk2 _ (.inr (ho2 (fun _ hs => nomatch hs)))
                refine X_exit ?_
                try simp -implicitDefEqProofs only [go_sem, ↓reduceIte, Nat.reduceEqDiff, reduceCtorEq]
                refine kJ_in ?_ ⟨x20, x21, x22, h, rfl, rfl⟩
                exact To.mv [(0, 0), (1, 0), (2, 0)] (BaseR.set hob (.box _ _ (by exact ⟨VLe.self (by simp [*]), VLe.self (by simp [*]), trivial⟩))) (by simp) (by decide) (by simp only [go_sem]; exact ⟨VM.self (by simp [*]), VM.refA (j := 0) (t := 0) rfl, VM.refA (j := 1) (t := 1) rfl, VM.self (by simp), VM.self (by simp)⟩) ⟨⟨_, rfl, OM.box _ _ ⟨VM.self (by simp), VM.self (by simp), VM.self (by simp), VM.self (by simp), VM.self (by simp), VM.self (by simp), VM.self (by simp), VM.self (by simp), VM.self (by simp), VM.self (by simp), VM.self (by simp), VM.self (by simp), trivial⟩⟩, ⟨_, rfl, OM.box _ _ ⟨VM.self (by simp), VM.self (by simp), VM.self (by simp), VM.self (by simp), VM.self (by simp), VM.self (by simp), VM.self (by simp), VM.self (by simp), VM.self (by simp), VM.self (by simp), VM.self (by simp), VM.rowL (j := 2) (t := 2) rfl (by first | rfl | simp | simp_all | omega), trivial⟩⟩, ⟨_, rfl, OM.row' (by first | rfl | simp_all)⟩, trivial⟩
               ·rw [if_pos f18] at h
                refine X_cond (lx_ok γ) ?_
                simp -implicitDefEqProofs only [go_sem, seval, hi1, f3, f9, f10, f11, f12, f13, f14, f15, f16, f18, hsA, hsB, hsC]
                refine X_skip ?_
                try simp -implicitDefEqProofs only [go_sem]
                refine X_seq ?_
                refine X_block ?_
                refine X_drawn (lx_ok γ) [[], [0], [], [2], [2, 3], [0, 1, 2, 3, 4], [0, 1, 2, 3, 4, 5], [0, 1, 2, 3, 4, 5, 6]] (fun i => match i with | 3 => true | 5 => true | 7 => true | _ => false) (by kernel_rfl) ?_
                obtain ⟨x24, f19, h⟩ := bindE h
                try simp -implicitDefEqProofs only [go_sem, seval, hi1, f3, f9, f10, f11, f12, f13, f14, f15, f16, f18, hsA, hsB, hsC, cmpr, List.getD_cons_zero, List.getD_cons_succ, List.contains_cons, List.contains_nil, Nat.reduceBEq, Bool.false_or, Bool.or_false, Bool.true_or, Bool.or_true, beq_self_eq_true]
                refine callV_eq (portolanref19_reader_loc_ok γ _ (by simp -implicitDefEqProofs only [go_sem, seval, hi1, f3, f9, f10, f11, f12, f13, f14, f15, f16, f18, hsA, hsB, hsC]; try rfl) f19) rfl rfl ?_
                obtain ⟨x25, f20, h⟩ := bindE h
                have f21 : List.length x25 * 16 ≤ 140737488355328 := by have := (appL_some f20).1; rw [(appL_some f20).2]; simpa using this
                have f22 : List.map e_Loc x20 ++ [[.lit (.int .i64 x24.2.Kind), .lit (.int .i64 x24.2.N)]] = List.map e_Loc x25 := by rw [(appL_some f20).2]; simp [eB, eI, eS, e_Loc]
                have f23 : List.length x20 + 1 = List.length x25 := by rw [(appL_some f20).2]; simp
                try simp -implicitDefEqProofs only [go_sem, seval, hi1, f3, f9, f10, f11, f12, f13, f14, f15, f16, f18, hsA, hsB, hsC, f21, f22, f23, cmpr, List.getD_cons_zero, List.getD_cons_succ, List.contains_cons, List.contains_nil, Nat.reduceBEq, Bool.false_or, Bool.or_false, Bool.true_or, Bool.or_true, beq_self_eq_true]
                refine X_reg (lx_ok γ) ?_
                obtain rfl := Option.some.inj h
                simp -implicitDefEqProofs only [go_sem, seval, hi1, f3, f9, f10, f11, f12, f13, f14, f15, f16, f18, hsA, hsB, hsC]
                refine kR_in rfl ?_ ⟨rfl, rfl⟩
                exact To.mv [(0, 0), (1, 0), (2, 1)] (BaseR.set hob (.box _ _ (by exact ⟨VLe.self (by simp [*]), VLe.self (by simp [*]), trivial⟩))) (by simp) (by decide) (by simp only [go_sem]; exact ⟨VM.self (by simp [*]), VM.refA (j := 0) (t := 0) rfl, VM.refA (j := 1) (t := 1) rfl, VM.self (by simp), VM.self (by simp), VM.self (by simp)⟩) ⟨⟨_, rfl, OM.box _ _ ⟨VM.self (by simp), VM.self (by simp), VM.self (by simp), VM.self (by simp), VM.self (by simp), VM.self (by simp), VM.self (by simp), VM.self (by simp), VM.self (by simp), VM.self (by simp), VM.self (by simp), VM.self (by simp), trivial⟩⟩, ⟨_, rfl, OM.box _ _ ⟨VM.self (by simp), VM.self (by simp), VM.self (by simp), VM.self (by simp), VM.self (by simp), VM.self (by simp), VM.self (by simp), VM.self (by simp), VM.self (by simp), VM.self (by simp), VM.self (by simp), VM.rowL (j := 2) (t := 2) rfl (by first | rfl | simp | simp_all | omega), trivial⟩⟩, ⟨_, rfl, OM.row' (by first | rfl | simp_all)⟩, trivial⟩
           ·rw [if_pos f15] at h
            refine X_cond (lx_ok γ) ?_
            simp -implicitDefEqProofs only [go_sem, seval, hi1, f3, f9, f10, f11, f12, f13, f14, f15, hsA, hsB, hsC]
            refine X_reg (lx_ok γ) ?_
            obtain ⟨x26, f24, h⟩ := bindE h
            simp -implicitDefEqProofs only [go_sem, seval, hi1, f3, f9, f10, f11, f12, f13, f14, f15, hsA, hsB, hsC]
            refine callV_eq (portolanref19_reader_num_ok γ _ (by simp -implicitDefEqProofs only [go_sem, seval, hi1, f3, f9, f10, f11, f12, f13, f14, f15, hsA, hsB, hsC]; try rfl) f24) rfl rfl ?_
            simp -implicitDefEqProofs only [go_sem, seval, hi1, f3, f9, f10, f11, f12, f13, f14, f15, hsA, hsB, hsC]
            refine X_reg (lx_ok γ) ?_
            obtain rfl := Option.some.inj h
            simp -implicitDefEqProofs only [go_sem, seval, hi1, f3, f9, f10, f11, f12, f13, f14, f15, hsA, hsB, hsC]
            refine kR_in rfl ?_ ⟨rfl, rfl⟩
            exact To.mv [(0, 0), (1, 0), (2, 0)] (BaseR.set hob (.box _ _ (by exact ⟨VLe.self (by simp [*]), VLe.self (by simp [*]), trivial⟩))) (by simp) (by decide) (by simp only [go_sem]; exact ⟨VM.self (by simp [*]), VM.refA (j := 0) (t := 0) rfl, VM.refA (j := 1) (t := 1) rfl, VM.self (by simp), VM.eqv (by rw [hw1]) (by simp)⟩) ⟨⟨_, rfl, OM.box _ _ ⟨VM.self (by simp), VM.self (by simp), VM.self (by simp), VM.self (by simp), VM.self (by simp), VM.self (by simp), VM.self (by simp), VM.self (by simp), VM.self (by simp), VM.self (by simp), VM.self (by simp), VM.self (by simp), trivial⟩⟩, ⟨_, rfl, OM.box _ _ ⟨VM.self (by simp), VM.self (by simp), VM.self (by simp), VM.self (by simp), VM.self (by simp), VM.self (by simp), VM.self (by simp), VM.self (by simp), VM.self (by simp), VM.self (by simp), VM.self (by simp), VM.rowL (j := 2) (t := 2) rfl (by first | rfl | simp | simp_all | omega), trivial⟩⟩, ⟨_, rfl, OM.row' (by first | rfl | simp_all)⟩, trivial⟩
          ·rw [if_pos f14] at h
           refine X_cond (lx_ok γ) ?_
           simp -implicitDefEqProofs only [go_sem, seval, hi1, f3, f9, f10, f11, f12, f13, f14, hsA, hsB, hsC]
           refine X_reg (lx_ok γ) ?_
           obtain ⟨x27, f25, h⟩ := bindE h
           simp -implicitDefEqProofs only [go_sem, seval, hi1, f3, f9, f10, f11, f12, f13, f14, hsA, hsB, hsC]
           refine callV_eq (portolanref19_reader_num_ok γ _ (by simp -implicitDefEqProofs only [go_sem, seval, hi1, f3, f9, f10, f11, f12, f13, f14, hsA, hsB, hsC]; try rfl) f25) rfl rfl ?_
           simp -implicitDefEqProofs only [go_sem, seval, hi1, f3, f9, f10, f11, f12, f13, f14, hsA, hsB, hsC]
           refine X_reg (lx_ok γ) ?_
           obtain rfl := Option.some.inj h
           simp -implicitDefEqProofs only [go_sem, seval, hi1, f3, f9, f10, f11, f12, f13, f14, hsA, hsB, hsC]
           refine kR_in rfl ?_ ⟨rfl, rfl⟩
           exact To.mv [(0, 0), (1, 0), (2, 0)] (BaseR.set hob (.box _ _ (by exact ⟨VLe.self (by simp [*]), VLe.self (by simp [*]), trivial⟩))) (by simp) (by decide) (by simp only [go_sem]; exact ⟨VM.self (by simp [*]), VM.refA (j := 0) (t := 0) rfl, VM.refA (j := 1) (t := 1) rfl, VM.self (by simp), VM.eqv (by rw [hw1]) (by simp)⟩) ⟨⟨_, rfl, OM.box _ _ ⟨VM.self (by simp), VM.self (by simp), VM.self (by simp), VM.self (by simp), VM.self (by simp), VM.self (by simp), VM.self (by simp), VM.self (by simp), VM.self (by simp), VM.self (by simp), VM.self (by simp), VM.self (by simp), trivial⟩⟩, ⟨_, rfl, OM.box _ _ ⟨VM.self (by simp), VM.self (by simp), VM.self (by simp), VM.self (by simp), VM.self (by simp), VM.self (by simp), VM.self (by simp), VM.self (by simp), VM.self (by simp), VM.self (by simp), VM.self (by simp), VM.rowL (j := 2) (t := 2) rfl (by first | rfl | simp | simp_all | omega), trivial⟩⟩, ⟨_, rfl, OM.row' (by first | rfl | simp_all)⟩, trivial⟩
         ·rw [if_pos f13] at h
          refine X_cond (lx_ok γ) ?_
          simp -implicitDefEqProofs only [go_sem, seval, hi1, f3, f9, f10, f11, f12, f13, hsA, hsB, hsC]
          refine X_reg (lx_ok γ) ?_
          obtain ⟨x28, f26, h⟩ := bindE h
          simp -implicitDefEqProofs only [go_sem, seval, hi1, f3, f9, f10, f11, f12, f13, hsA, hsB, hsC]
          refine callV_eq (portolanref19_reader_num_ok γ _ (by simp -implicitDefEqProofs only [go_sem, seval, hi1, f3, f9, f10, f11, f12, f13, hsA, hsB, hsC]; try rfl) f26) rfl rfl ?_
          simp -implicitDefEqProofs only [go_sem, seval, hi1, f3, f9, f10, f11, f12, f13, hsA, hsB, hsC]
          refine X_reg (lx_ok γ) ?_
          obtain rfl := Option.some.inj h
          simp -implicitDefEqProofs only [go_sem, seval, hi1, f3, f9, f10, f11, f12, f13, hsA, hsB, hsC]
          refine kR_in rfl ?_ ⟨rfl, rfl⟩
          exact To.mv [(0, 0), (1, 0), (2, 0)] (BaseR.set hob (.box _ _ (by exact ⟨VLe.self (by simp [*]), VLe.self (by simp [*]), trivial⟩))) (by simp) (by decide) (by simp only [go_sem]; exact ⟨VM.self (by simp [*]), VM.refA (j := 0) (t := 0) rfl, VM.refA (j := 1) (t := 1) rfl, VM.self (by simp), VM.eqv (by rw [hw1]) (by simp)⟩) ⟨⟨_, rfl, OM.box _ _ ⟨VM.self (by simp), VM.self (by simp), VM.self (by simp), VM.self (by simp), VM.self (by simp), VM.self (by simp), VM.self (by simp), VM.self (by simp), VM.self (by simp), VM.self (by simp), VM.self (by simp), VM.self (by simp), trivial⟩⟩, ⟨_, rfl, OM.box _ _ ⟨VM.self (by simp), VM.self (by simp), VM.self (by simp), VM.self (by simp), VM.self (by simp), VM.self (by simp), VM.self (by simp), VM.self (by simp), VM.self (by simp), VM.self (by simp), VM.self (by simp), VM.rowL (j := 2) (t := 2) rfl (by first | rfl | simp | simp_all | omega), trivial⟩⟩, ⟨_, rfl, OM.row' (by first | rfl | simp_all)⟩, trivial⟩
        ·rw [if_pos f12] at h
         refine X_cond (lx_ok γ) ?_
         simp -implicitDefEqProofs only [go_sem, seval, hi1, f3, f9, f10, f11, f12, hsA, hsB, hsC]
         refine X_reg (lx_ok γ) ?_
         obtain ⟨x29, f27, h⟩ := bindE h
         simp -implicitDefEqProofs only [go_sem, seval, hi1, f3, f9, f10, f11, f12, hsA, hsB, hsC]
         refine callV_eq (portolanref19_reader_loc_ok γ _ (by simp -implicitDefEqProofs only [go_sem, seval, hi1, f3, f9, f10, f11, f12, hsA, hsB, hsC]; try rfl) f27) rfl rfl ?_
         simp -implicitDefEqProofs only [go_sem, seval, hi1, f3, f9, f10, f11, f12, hsA, hsB, hsC]
         refine X_reg (lx_ok γ) ?_
         obtain rfl := Option.some.inj h
         simp -implicitDefEqProofs only [go_sem, seval, hi1, f3, f9, f10, f11, f12, hsA, hsB, hsC]
         refine kR_in rfl ?_ ⟨rfl, rfl⟩
         exact To.mv [(0, 0), (1, 0), (2, 0)] (BaseR.set hob (.box _ _ (by exact ⟨VLe.self (by simp [*]), VLe.self (by simp [*]), trivial⟩))) (by simp) (by decide) (by simp only [go_sem]; exact ⟨VM.self (by simp [*]), VM.refA (j := 0) (t := 0) rfl, VM.refA (j := 1) (t := 1) rfl, VM.self (by simp), VM.eqv (by rw [hw1]) (by simp)⟩) ⟨⟨_, rfl, OM.box _ _ ⟨VM.self (by simp), VM.self (by simp), VM.self (by simp), VM.self (by simp), VM.self (by simp), VM.self (by simp), VM.self (by simp), VM.self (by simp), VM.self (by simp), VM.self (by simp), VM.self (by simp), VM.self (by simp), trivial⟩⟩, ⟨_, rfl, OM.box _ _ ⟨VM.self (by simp), VM.self (by simp), VM.self (by simp), VM.self (by simp), VM.self (by simp), VM.self (by simp), VM.self (by simp), VM.self (by simp), VM.self (by simp), VM.self (by simp), VM.self (by simp), VM.rowL (j := 2) (t := 2) rfl (by first | rfl | simp | simp_all | omega), trivial⟩⟩, ⟨_, rfl, OM.row' (by first | rfl | simp_all)⟩, trivial⟩
       ·rw [if_pos f11] at h
        refine X_cond (lx_ok γ) ?_
        simp -implicitDefEqProofs only [go_sem, seval, hi1, f3, f9, f10, f11, hsA, hsB, hsC]
        refine X_reg (lx_ok γ) ?_
        obtain ⟨x30, f28, h⟩ := bindE h
        simp -implicitDefEqProofs only [go_sem, seval, hi1, f3, f9, f10, f11, hsA, hsB, hsC]
        refine callV_eq (portolanref19_reader_loc_ok γ _ (by simp -implicitDefEqProofs only [go_sem, seval, hi1, f3, f9, f10, f11, hsA, hsB, hsC]; try rfl) f28) rfl rfl ?_
        simp -implicitDefEqProofs only [go_sem, seval, hi1, f3, f9, f10, f11, hsA, hsB, hsC]
        refine X_reg (lx_ok γ) ?_
        obtain rfl := Option.some.inj h
        simp -implicitDefEqProofs only [go_sem, seval, hi1, f3, f9, f10, f11, hsA, hsB, hsC]
        refine kR_in rfl ?_ ⟨rfl, rfl⟩
        exact To.mv [(0, 0), (1, 0), (2, 0)] (BaseR.set hob (.box _ _ (by exact ⟨VLe.self (by simp [*]), VLe.self (by simp [*]), trivial⟩))) (by simp) (by decide) (by simp only [go_sem]; exact ⟨VM.self (by simp [*]), VM.refA (j := 0) (t := 0) rfl, VM.refA (j := 1) (t := 1) rfl, VM.self (by simp), VM.eqv (by rw [hw1]) (by simp)⟩) ⟨⟨_, rfl, OM.box _ _ ⟨VM.self (by simp), VM.self (by simp), VM.self (by simp), VM.self (by simp), VM.self (by simp), VM.self (by simp), VM.self (by simp), VM.self (by simp), VM.self (by simp), VM.self (by simp), VM.self (by simp), VM.self (by simp), trivial⟩⟩, ⟨_, rfl, OM.box _ _ ⟨VM.self (by simp), VM.self (by simp), VM.self (by simp), VM.self (by simp), VM.self (by simp), VM.self (by simp), VM.self (by simp), VM.self (by simp), VM.self (by simp), VM.self (by simp), VM.self (by simp), VM.rowL (j := 2) (t := 2) rfl (by first | rfl | simp | simp_all | omega), trivial⟩⟩, ⟨_, rfl, OM.row' (by first | rfl | simp_all)⟩, trivial⟩
      ·rw [if_pos f10] at h
       refine X_cond (lx_ok γ) ?_
       simp -implicitDefEqProofs only [go_sem, seval, hi1, f3, f9, f10, hsA, hsB, hsC]
       refine X_reg (lx_ok γ) ?_
       obtain ⟨x31, f29, h⟩ := bindE h
       simp -implicitDefEqProofs only [go_sem, seval, hi1, f3, f9, f10, hsA, hsB, hsC]
       refine callV_eq (portolanref19_reader_loc_ok γ _ (by simp -implicitDefEqProofs only [go_sem, seval, hi1, f3, f9, f10, hsA, hsB, hsC]; try rfl) f29) rfl rfl ?_
       simp -implicitDefEqProofs only [go_sem, seval, hi1, f3, f9, f10, hsA, hsB, hsC]
       refine X_reg (lx_ok γ) ?_
       obtain rfl := Option.some.inj h
       simp -implicitDefEqProofs only [go_sem, seval, hi1, f3, f9, f10, hsA, hsB, hsC]
       refine kR_in rfl ?_ ⟨rfl, rfl⟩
       exact To.mv [(0, 0), (1, 0), (2, 0)] (BaseR.set hob (.box _ _ (by exact ⟨VLe.self (by simp [*]), VLe.self (by simp [*]), trivial⟩))) (by simp) (by decide) (by simp only [go_sem]; exact ⟨VM.self (by simp [*]), VM.refA (j := 0) (t := 0) rfl, VM.refA (j := 1) (t := 1) rfl, VM.self (by simp), VM.eqv (by rw [hw1]) (by simp)⟩) ⟨⟨_, rfl, OM.box _ _ ⟨VM.self (by simp), VM.self (by simp), VM.self (by simp), VM.self (by simp), VM.self (by simp), VM.self (by simp), VM.self (by simp), VM.self (by simp), VM.self (by simp), VM.self (by simp), VM.self (by simp), VM.self (by simp), trivial⟩⟩, ⟨_, rfl, OM.box _ _ ⟨VM.self (by simp), VM.self (by simp), VM.self (by simp), VM.self (by simp), VM.self (by simp), VM.self (by simp), VM.self (by simp), VM.self (by simp), VM.self (by simp), VM.self (by simp), VM.self (by simp), VM.rowL (j := 2) (t := 2) rfl (by first | rfl | simp | simp_all | omega), trivial⟩⟩, ⟨_, rfl, OM.row' (by first | rfl | simp_all)⟩, trivial⟩
     ·rw [if_pos f9] at h
      refine X_cond (lx_ok γ) ?_
      simp -implicitDefEqProofs only [go_sem, seval, hi1, f3, f9, hsA, hsB, hsC]
      refine X_reg (lx_ok γ) ?_
      obtain ⟨x32, f30, h⟩ := bindE h
      simp -implicitDefEqProofs only [go_sem, seval, hi1, f3, f9, hsA, hsB, hsC]
      refine callV_eq (portolanref19_reader_loc_ok γ _ (by simp -implicitDefEqProofs only [go_sem, seval, hi1, f3, f9, hsA, hsB, hsC]; try rfl) f30) rfl rfl ?_
      simp -implicitDefEqProofs only [go_sem, seval, hi1, f3, f9, hsA, hsB, hsC]
      refine X_reg (lx_ok γ) ?_
      obtain rfl := Option.some.inj h
      simp -implicitDefEqProofs only [go_sem, seval, hi1, f3, f9, hsA, hsB, hsC]
      refine kR_in rfl ?_ ⟨rfl, rfl⟩
      exact To.mv [(0, 0), (1, 0), (2, 0)] (BaseR.set hob (.box _ _ (by exact ⟨VLe.self (by simp [*]), VLe.self (by simp [*]), trivial⟩))) (by simp) (by decide) (by simp only [go_sem]; exact ⟨VM.self (by simp [*]), VM.refA (j := 0) (t := 0) rfl, VM.refA (j := 1) (t := 1) rfl, VM.self (by simp), VM.eqv (by rw [hw1]) (by simp)⟩) ⟨⟨_, rfl, OM.box _ _ ⟨VM.self (by simp), VM.self (by simp), VM.self (by simp), VM.self (by simp), VM.self (by simp), VM.self (by simp), VM.self (by simp), VM.self (by simp), VM.self (by simp), VM.self (by simp), VM.self (by simp), VM.self (by simp), trivial⟩⟩, ⟨_, rfl, OM.box _ _ ⟨VM.self (by simp), VM.self (by simp), VM.self (by simp), VM.self (by simp), VM.self (by simp), VM.self (by simp), VM.self (by simp), VM.self (by simp), VM.self (by simp), VM.self (by simp), VM.self (by simp), VM.rowL (j := 2) (t := 2) rfl (by first | rfl | simp | simp_all | omega), trivial⟩⟩, ⟨_, rfl, OM.row' (by first | rfl | simp_all)⟩, trivial⟩
   ·rintro i1 ⟨x4, x5, x6, x7, x8, x9, x10, x11, x12, x13, x14, x15, x16⟩ hi1 hn1 as1 ob1 ⟨rfl, rfl⟩
    refine X_seq ?_
    refine X_seq ?_
    refine X_reg (lx_ok γ) ?_
    simp -implicitDefEqProofs only [go_sem, seval, hi1, hsA, hsB, hsC]
    refine X_condF (lx_ok γ) rfl ?_
    have h := hk1 _ (.inl hn1)
    refine X_exit ?_
    try simp -implicitDefEqProofs only [go_sem, ↓reduceIte, Nat.reduceEqDiff, reduceCtorEq]
    refine kJ_in ?_ ⟨x4, x5, x6, x7, x8, x9, x10, x11, x12, x13, x14, x15, x16, h, rfl, rfl⟩
    exact To.mv [(0, 0), (1, 0), (2, 0)] (BaseR.set hob (.box _ _ (by exact ⟨VLe.self (by simp [*]), VLe.self (by simp [*]), trivial⟩))) (by simp) (by decide) (by simp only [go_sem]; exact ⟨VM.refA (j := 0) (t := 0) rfl, VM.refA (j := 1) (t := 1) rfl⟩) ⟨⟨_, rfl, OM.box _ _ ⟨VM.self (by simp), VM.self (by simp), VM.self (by simp), VM.self (by simp), VM.self (by simp), VM.self (by simp), VM.self (by simp), VM.self (by simp), VM.self (by simp), VM.self (by simp), VM.self (by simp), VM.self (by simp), trivial⟩⟩, ⟨_, rfl, OM.box _ _ ⟨VM.self (by simp), VM.self (by simp), VM.self (by simp), VM.self (by simp), VM.self (by simp), VM.self (by simp), VM.self (by simp), VM.self (by simp), VM.self (by simp), VM.self (by simp), VM.self (by simp), VM.rowL (j := 2) (t := 2) rfl (by first | rfl | simp | simp_all | omega), trivial⟩⟩, ⟨_, rfl, OM.row' (by first | rfl | simp_all)⟩, trivial⟩
 ·refine X_seq ?_
  refine X_reg (lx_ok γ) ?_
  cases f31 : (x1.1.err == 0)
  ·rw [if_neg (ne_true_of_eq_false f31)] at h
   simp -implicitDefEqProofs only [go_sem, seval, f31, hsA, hsB, hsC]
   refine X_condF (lx_ok γ) rfl ?_
   refine X_skip ?_
   try simp -implicitDefEqProofs only [go_sem]
   refine kJ_in ?_ ⟨x1.1.err, h, rfl, rfl⟩
   exact To.mv [(0, 0), (1, 0)] (BaseR.set hob (.box _ _ (by exact ⟨VLe.self (by simp [*]), VLe.self (by simp [*]), trivial⟩))) (by simp) (by decide) (by simp only [go_sem]; exact ⟨VM.self (by simp [*]), VM.refA (j := 0) (t := 0) rfl, VM.refA (j := 1) (t := 1) rfl, VM.self (by simp)⟩) ⟨⟨_, rfl, OM.box _ _ ⟨VM.self (by simp), VM.self (by simp), VM.self (by simp), VM.self (by simp), VM.self (by simp), VM.self (by simp), VM.self (by simp), VM.self (by simp), VM.self (by simp), VM.self (by simp), VM.self (by simp), VM.self (by simp), trivial⟩⟩, ⟨_, rfl, OM.box _ _ ⟨VM.self (by simp), VM.self (by simp), VM.self (by simp), VM.self (by simp), VM.self (by simp), VM.self (by simp), VM.self (by simp), VM.self (by simp), VM.self (by simp), VM.self (by simp), VM.self (by simp), VM.self (by simp), trivial⟩⟩, trivial⟩
  ·rw [if_pos f31] at h
   simp -implicitDefEqProofs only [go_sem, seval, f31, hsA, hsB, hsC]
   cases f32 : x2.2
   ·rw [if_neg (ne_true_of_eq_false f32)] at h
    refine X_cond (lx_ok γ) ?_
    simp -implicitDefEqProofs only [go_sem, seval, f31, f32, hsA, hsB, hsC]
    refine X_reg (lx_ok γ) ?_
    simp -implicitDefEqProofs only [go_sem, seval, f31, f32, hsA, hsB, hsC]
    refine kJ_in ?_ ⟨5, h, rfl, rfl⟩
    exact To.mv [(0, 0), (1, 0)] (BaseR.set hob (.box _ _ (by exact ⟨VLe.self (by simp [*]), VLe.self (by simp [*]), trivial⟩))) (by simp) (by decide) (by simp only [go_sem]; exact ⟨VM.self (by simp [*]), VM.refA (j := 0) (t := 0) rfl, VM.refA (j := 1) (t := 1) rfl, VM.self (by simp)⟩) ⟨⟨_, rfl, OM.box _ _ ⟨VM.self (by simp), VM.self (by simp), VM.self (by simp), VM.self (by simp), VM.self (by simp), VM.self (by simp), VM.self (by simp), VM.self (by simp), VM.self (by simp), VM.self (by simp), VM.self (by simp), VM.self (by simp), trivial⟩⟩, ⟨_, rfl, OM.box _ _ ⟨VM.self (by simp), VM.self (by simp), VM.self (by simp), VM.self (by simp), VM.self (by simp), VM.self (by simp), VM.self (by simp), VM.self (by simp), VM.self (by simp), VM.self (by simp), VM.self (by simp), VM.self (by simp), trivial⟩⟩, trivial⟩
   ·rw [if_pos f32] at h
    refine X_cond (lx_ok γ) ?_
    simp -implicitDefEqProofs only [go_sem, seval, f31, f32, hsA, hsB, hsC]
    refine X_skip ?_
    try simp -implicitDefEqProofs only [go_sem]
    refine kJ_in ?_ ⟨x1.1.err, h, rfl, rfl⟩
    exact To.mv [(0, 0), (1, 0)] (BaseR.set hob (.box _ _ (by exact ⟨VLe.self (by simp [*]), VLe.self (by simp [*]), trivial⟩))) (by simp) (by decide) (by simp only [go_sem]; exact ⟨VM.self (by simp [*]), VM.refA (j := 0) (t := 0) rfl, VM.refA (j := 1) (t := 1) rfl, VM.self (by simp)⟩) ⟨⟨_, rfl, OM.box _ _ ⟨VM.self (by simp), VM.self (by simp), VM.self (by simp), VM.self (by simp), VM.self (by simp), VM.self (by simp), VM.self (by simp), VM.self (by simp), VM.self (by simp), VM.self (by simp), VM.self (by simp), VM.self (by simp), trivial⟩⟩, ⟨_, rfl, OM.box _ _ ⟨VM.self (by simp), VM.self (by simp), VM.self (by simp), VM.self (by simp), VM.self (by simp), VM.self (by simp), VM.self (by simp), VM.self (by simp), VM.self (by simp), VM.self (by simp), VM.self (by simp), VM.self (by simp), trivial⟩⟩, trivial⟩
end Go.Pf
end
section
set_option maxRecDepth 100000
namespace Go.Pf
open Go Go.Ab Go.Pp Go.Proofs Go.Proofs.S19
attribute [local go_sem] Lxτ Lxγ gam0 Int.toNat_natCast tau3 tau4 tau5 tau22 tau23 tau25 tau28 tau29 tau46 tau47 tau49 tau73 eI eB eS e_Loc e_Mins e_Text e_text_room e_text_reader e_portolanref19_reader
set_option maxHeartbeats 1000000 in
theorem portolanref19_Decode_ok (γ : GT) (ob : OT) {a0 : List Int} {r : Text × Int} (h : portolanref19_Decode a0 = some r) :
  Valid (Lx γ) 20 [V.tr (.sl 1 false (List.map (eI .u8) a0))] ob (V.tup [V.agg [V.tr (.sl 12 false (List.map e_Mins r.1.Code)), V.tr (.sl 1 false (List.map (eI .i64) r.1.Starts)), V.tr (.sl 1 false (List.map (eI .i64) r.1.Slots))], vint .i64 r.2]) ob := by
 refine valid_X (lx_ok γ) (fn := Tryd.f20) (rs := [.cell 2 25, .tmp 3]) Tryd.func20 (by kernel_rfl) rfl rfl Tryd.ntmps20 rfl (by simp) fun hb hob => ?_
 rw [portolanref19_Decode] at h
 refine X_seq ?_
 refine X_reg (lx_ok γ) ?_
 simp -implicitDefEqProofs only [go_sem, seval]
 refine X_seq ?_
 refine X_reg (lx_ok γ) ?_
 simp -implicitDefEqProofs only [go_sem, seval]
 refine X_seq ?_
 refine X_reg (lx_ok γ) ?_
 simp -implicitDefEqProofs only [go_sem, seval]
 refine X_seq ?_
 refine X_reg (lx_ok γ) ?_
 simp -implicitDefEqProofs only [go_sem, seval]
 refine X_seq ?_
 refine X_seq ?_
 refine X_reg (lx_ok γ) ?_
 obtain ⟨x1, f1, h⟩ := bindE h
 simp -implicitDefEqProofs only [go_sem, seval]
 refine callV_eq (portolanref19_reader_num_ok γ _ (by simp -implicitDefEqProofs only [go_sem, seval]; try rfl) f1) rfl rfl ?_
 simp -implicitDefEqProofs only [go_sem, seval]
 refine X_jq (J := fun as1 ob1 => ∃ (x2 : List Int) (x3 : List Int) (x4 : List Int) (x5 : Int) (x6 : Int), portolanref19_Decode.k1 x2 x3 x4 x5 x6 = some r ∧ [(2, V.ref ob.length 0), (4, V.ref (ob.length + 1) 0), (5, V.ref (ob.length + 2) 0), (6, vint .i64 x6)] = as1 ∧ ob ++ [some (O.box [V.tr (.sl 0 true []), V.tr (.sl 0 true []), V.tr (.sl 0 true [])]), some (O.box [V.tr (.sl 1 false (List.map (eI .u8) x4)), vint .i64 x5]), some (O.box [V.tr (.sl 0 true []), V.row (ob.length + 3) 0 0 (List.length x2), V.row (ob.length + 4) 0 0 (List.length x3)]), some (O.row 1 0 (List.map (eI .i64) x2)), some (O.row 1 0 (List.map (eI .i64) x3))] = ob1) ?_ ?_
 ·rintro as1 ob1 ⟨x2, x3, x4, x5, x6, h, rfl, rfl⟩
  rw [portolanref19_Decode.k1] at h
  simp -implicitDefEqProofs only [go_sem, seval]
  refine X_seq ?_
  refine X_seq ?_
  refine X_reg (lx_ok γ) ?_
  simp -implicitDefEqProofs only [go_sem, seval]
  refine X_jq (J := fun as1 ob1 => ∃ (x8 : List Mins) (x9 : List Int) (x10 : Int), portolanref19_Decode.k2 x2 x3 x8 x9 x10 = some r ∧ [(2, V.ref ob.length 0), (4, V.ref (ob.length + 1) 0), (5, V.ref (ob.length + 2) 0)] = as1 ∧ ob ++ [some (O.box [V.tr (.sl 0 true []), V.tr (.sl 0 true []), V.tr (.sl 0 true [])]), some (O.box [V.tr (.sl 1 false (List.map (eI .u8) x9)), vint .i64 x10]), some (O.box [V.row (ob.length + 3) 0 0 (List.length x8), V.row (ob.length + 4) 0 0 (List.length x2), V.row (ob.length + 5) 0 0 (List.length x3)]), some (O.row 12 0 (List.map e_Mins x8)), some (O.row 1 0 (List.map (eI .i64) x2)), some (O.row 1 0 (List.map (eI .i64) x3))] = ob1) ?_ ?_
  ·rintro as1 ob1 ⟨x8, x9, x10, h, rfl, rfl⟩
   rw [portolanref19_Decode.k2] at h
   simp -implicitDefEqProofs only [go_sem, seval]
   refine X_seq ?_
   refine X_jq (J := fun as1 ob1 => ∃ (x12 : Int), portolanref19_Decode.j1 x2 x3 x8 x12 = some r ∧ [(2, V.ref ob.length 0), (4, V.ref (ob.length + 1) 0), (5, V.ref (ob.length + 2) 0)] = as1 ∧ ob ++ [some (O.box [V.tr (.sl 0 true []), V.tr (.sl 0 true []), V.tr (.sl 0 true [])]), some (O.box [V.tr (.sl 1 false (List.map (eI .u8) x9)), vint .i64 x12]), some (O.box [V.row (ob.length + 3) 0 0 (List.length x8), V.row (ob.length + 4) 0 0 (List.length x2), V.row (ob.length + 5) 0 0 (List.length x3)]), some (O.row 12 0 (List.map e_Mins x8)), some (O.row 1 0 (List.map (eI .i64) x2)), some (O.row 1 0 (List.map (eI .i64) x3))] = ob1) ?_ ?_
   ·rintro as1 ob1 ⟨x12, h, rfl, rfl⟩
    rw [portolanref19_Decode.j1] at h
    simp -implicitDefEqProofs only [go_sem, seval]
    refine X_seq ?_
    refine X_seq ?_
    refine X_reg (lx_ok γ) ?_
    simp -implicitDefEqProofs only [go_sem, seval]
    cases f2 : (x12 != 0)
    ·rw [if_neg (ne_true_of_eq_false f2)] at h
     refine X_cond (lx_ok γ) ?_
     simp -implicitDefEqProofs only [go_sem, seval, f2]
     refine X_skip ?_
     try simp -implicitDefEqProofs only [go_sem]
     refine X_seq ?_
     refine X_reg (lx_ok γ) ?_
     simp -implicitDefEqProofs only [go_sem, seval, f2]
     obtain rfl := Option.some.inj h
     refine X_ret ?_
     simp -implicitDefEqProofs only [go_sem, seval, f2]
     refine Rt.trans (Rt.freeze (by simp only [go_sem, ↓reduceIte, Nat.reduceAdd, Nat.reduceEqDiff, frz, frzL]; rfl)) ?_
     simp -implicitDefEqProofs only [go_sem, seval, f2]
     exact Rt.mv0 (BaseR.refl hob) (by simp) (VM.tup ⟨VM.agg ⟨VM.self (by simp), VM.self (by simp), VM.self (by simp), trivial⟩, VM.self (by simp), trivial⟩)
    ·rw [if_pos f2] at h
     refine X_cond (lx_ok γ) ?_
     simp -implicitDefEqProofs only [go_sem, seval, f2]
     refine X_seq ?_
     refine X_drawn (lx_ok γ) [[], [], [1], [0], [0, 1, 2, 3]] (fun i => match i with | 3 => true | _ => false) (by kernel_rfl) ?_
     try simp -implicitDefEqProofs only [go_sem, seval, f2, cmpr, List.getD_cons_zero, List.getD_cons_succ, List.contains_cons, List.contains_nil, Nat.reduceBEq, Bool.false_or, Bool.or_false, Bool.true_or, Bool.or_true, beq_self_eq_true]
     obtain rfl := Option.some.inj h
     refine X_ret ?_
     simp -implicitDefEqProofs only [go_sem, seval, f2]
     exact Rt.mv0 (BaseR.refl hob) (by simp) (VM.tup ⟨VM.agg ⟨VM.nil _ _ _, VM.nil _ _ _, VM.nil _ _ _, trivial⟩, VM.self (by simp), trivial⟩)
   ·refine X_seq ?_
    refine X_reg (lx_ok γ) ?_
    cases f3 : (x10 == 0)
    ·rw [if_neg (ne_true_of_eq_false f3)] at h
     simp -implicitDefEqProofs only [go_sem, seval, f3]
     refine X_condF (lx_ok γ) rfl ?_
     refine X_skip ?_
     try simp -implicitDefEqProofs only [go_sem]
     refine kJ_in ?_ ⟨x10, h, rfl, rfl⟩
     exact To.mv [(0, 0), (1, 0), (2, 0), (3, 0), (4, 0), (5, 0)] (BaseR.refl hob) (by simp) (by decide) (by simp only [go_sem]; exact ⟨VM.refA (j := 0) (t := 0) rfl, VM.refA (j := 1) (t := 1) rfl, VM.refA (j := 2) (t := 2) rfl⟩) ⟨⟨_, rfl, OM.box _ _ ⟨VM.self (by simp), VM.self (by simp), VM.self (by simp), trivial⟩⟩, ⟨_, rfl, OM.box _ _ ⟨VM.self (by simp), VM.self (by simp), trivial⟩⟩, ⟨_, rfl, OM.box _ _ ⟨VM.rowL (j := 3) (t := 3) rfl (by first | rfl | simp | simp_all | omega), VM.rowL (j := 4) (t := 4) rfl (by first | rfl | simp | simp_all | omega), VM.rowL (j := 5) (t := 5) rfl (by first | rfl | simp | simp_all | omega), trivial⟩⟩, ⟨_, rfl, OM.row' (by first | rfl | simp_all)⟩, ⟨_, rfl, OM.row' (by first | rfl | simp_all)⟩, ⟨_, rfl, OM.row' (by first | rfl | simp_all)⟩, trivial⟩
    ·rw [if_pos f3] at h
     cases f4 : decide (0 < (List.length x9 : Int))
     ·rw [if_neg (ne_true_of_eq_false f4)] at h
      obtain ⟨x13, f5, h⟩ := bindE h
      simp -implicitDefEqProofs only [go_sem, seval, f3, f4]
      refine callV_eq (portolanref19_Right_ok γ _ (by simp -implicitDefEqProofs only [go_sem, seval, f3, f4]; try rfl) (by simp -implicitDefEqProofs only [go_sem, seval, f3, f4]; try rfl) (by simp -implicitDefEqProofs only [go_sem, seval, f3, f4]; try rfl) f5) rfl rfl ?_
      simp -implicitDefEqProofs only [go_sem, seval, f3, f4]
      cases f6 : x13
      ·rw [if_neg (ne_true_of_eq_false f6)] at h
       refine X_cond (lx_ok γ) ?_
       simp -implicitDefEqProofs only [go_sem, seval, f3, f4, f6]
       refine X_reg (lx_ok γ) ?_
       simp -implicitDefEqProofs only [go_sem, seval, f3, f4, f6]
       refine kJ_in ?_ ⟨5, h, rfl, rfl⟩
       exact To.mv [(0, 0), (1, 0), (2, 0), (3, 0), (4, 0), (5, 0)] (BaseR.refl hob) (by simp) (by decide) (by simp only [go_sem]; exact ⟨VM.refA (j := 0) (t := 0) rfl, VM.refA (j := 1) (t := 1) rfl, VM.refA (j := 2) (t := 2) rfl⟩) ⟨⟨_, rfl, OM.box _ _ ⟨VM.self (by simp), VM.self (by simp), VM.self (by simp), trivial⟩⟩, ⟨_, rfl, OM.box _ _ ⟨VM.self (by simp), VM.self (by simp), trivial⟩⟩, ⟨_, rfl, OM.box _ _ ⟨VM.rowL (j := 3) (t := 3) rfl (by first | rfl | simp | simp_all | omega), VM.rowL (j := 4) (t := 4) rfl (by first | rfl | simp | simp_all | omega), VM.rowL (j := 5) (t := 5) rfl (by first | rfl | simp | simp_all | omega), trivial⟩⟩, ⟨_, rfl, OM.row' (by first | rfl | simp_all)⟩, ⟨_, rfl, OM.row' (by first | rfl | simp_all)⟩, ⟨_, rfl, OM.row' (by first | rfl | simp_all)⟩, trivial⟩
      ·rw [if_pos f6] at h
       refine X_cond (lx_ok γ) ?_
       simp -implicitDefEqProofs only [go_sem, seval, f3, f4, f6]
       refine X_skip ?_
       try simp -implicitDefEqProofs only [go_sem]
       refine kJ_in ?_ ⟨x10, h, rfl, rfl⟩
       exact To.mv [(0, 0), (1, 0), (2, 0), (3, 0), (4, 0), (5, 0)] (BaseR.refl hob) (by simp) (by decide) (by simp only [go_sem]; exact ⟨VM.refA (j := 0) (t := 0) rfl, VM.refA (j := 1) (t := 1) rfl, VM.refA (j := 2) (t := 2) rfl⟩) ⟨⟨_, rfl, OM.box _ _ ⟨VM.self (by simp), VM.self (by simp), VM.self (by simp), trivial⟩⟩, ⟨_, rfl, OM.box _ _ ⟨VM.self (by simp), VM.self (by simp), trivial⟩⟩, ⟨_, rfl, OM.box _ _ ⟨VM.rowL (j := 3) (t := 3) rfl (by first | rfl | simp | simp_all | omega), VM.rowL (j := 4) (t := 4) rfl (by first | rfl | simp | simp_all | omega), VM.rowL (j := 5) (t := 5) rfl (by first | rfl | simp | simp_all | omega), trivial⟩⟩, ⟨_, rfl, OM.row' (by first | rfl | simp_all)⟩, ⟨_, rfl, OM.row' (by first | rfl | simp_all)⟩, ⟨_, rfl, OM.row' (by first | rfl | simp_all)⟩, trivial⟩
     ·rw [if_pos f4] at h
      simp -implicitDefEqProofs only [go_sem, seval, f3, f4]
      refine X_condT (lx_ok γ) rfl ?_
      refine X_reg (lx_ok γ) ?_
      simp -implicitDefEqProofs only [go_sem, seval, f3, f4]
      refine kJ_in ?_ ⟨5, h, rfl, rfl⟩
      exact To.mv [(0, 0), (1, 0), (2, 0), (3, 0), (4, 0), (5, 0)] (BaseR.refl hob) (by simp) (by decide) (by simp only [go_sem]; exact ⟨VM.refA (j := 0) (t := 0) rfl, VM.refA (j := 1) (t := 1) rfl, VM.refA (j := 2) (t := 2) rfl⟩) ⟨⟨_, rfl, OM.box _ _ ⟨VM.self (by simp), VM.self (by simp), VM.self (by simp), trivial⟩⟩, ⟨_, rfl, OM.box _ _ ⟨VM.self (by simp), VM.self (by simp), trivial⟩⟩, ⟨_, rfl, OM.box _ _ ⟨VM.rowL (j := 3) (t := 3) rfl (by first | rfl | simp | simp_all | omega), VM.rowL (j := 4) (t := 4) rfl (by first | rfl | simp | simp_all | omega), VM.rowL (j := 5) (t := 5) rfl (by first | rfl | simp | simp_all | omega), trivial⟩⟩, ⟨_, rfl, OM.row' (by first | rfl | simp_all)⟩, ⟨_, rfl, OM.row' (by first | rfl | simp_all)⟩, ⟨_, rfl, OM.row' (by first | rfl | simp_all)⟩, trivial⟩
  ·refine X_block ?_
   obtain ⟨lr2, hl2, hk2, hr2⟩ := aft2 h
   refine X_forN hl2 (fun (i2 : Nat) (s : (List Mins) × (List Int) × Int) as1 ob1 => [(2, V.ref ob.length 0), (4, V.ref (ob.length + 1) 0), (5, V.ref (ob.length + 2) 0), (6, vint .i64 x6), (8, vint .i64 (i2 : Int))] = as1 ∧ ob ++ [some (O.box [V.tr (.sl 0 true []), V.tr (.sl 0 true []), V.tr (.sl 0 true [])]), some (O.box [V.tr (.sl 1 false (List.map (eI .u8) s.2.1)), vint .i64 s.2.2]), some (O.box [V.row (ob.length + 5) 0 0 (List.length s.1), V.row (ob.length + 3) 0 0 (List.length x2), V.row (ob.length + 4) 0 0 (List.length x3)]), some (O.row 1 0 (List.map (eI .i64) x2)), some (O.row 1 0 (List.map (eI .i64) x3)), some (O.row 12 0 (List.map e_Mins s.1))] = ob1) ⟨_, _, ?_, rfl, rfl⟩ ?_ ?_
   ·exact To.trans (To.gh (as' := [(2, _), (4, _), (5, _), (6, _), (8, _)]) (l' := [some (O.box [_, _, _]), some (O.box [_, _]), some (O.box [V.row (ob.length + 5) 0 0 0, _, _]), _, _]) 12 ⟨VG.refl _ _ _, VG.refl _ _ _, VG.refl _ _ _, VG.refl _ _ _, VG.refl _ _ _, trivial⟩ ⟨Or.inl rfl, Or.inl rfl, Or.inr ⟨_, _, rfl, rfl, .box _ _ ⟨VG.nilL, VG.refl _ _ _, VG.refl _ _ _, trivial⟩⟩, Or.inl rfl, Or.inl rfl, trivial⟩) (To.mv [(0, 0), (1, 0), (2, 0), (3, 0), (4, 0), (5, 0)] (BaseR.refl hob) (by simp) (by decide) (by simp only [go_sem]; exact ⟨VM.refA (j := 0) (t := 0) rfl, VM.refA (j := 1) (t := 1) rfl, VM.refA (j := 2) (t := 2) rfl, VM.self (by simp), VM.eqv (by simp) (by simp)⟩) ⟨⟨_, rfl, OM.box _ _ ⟨VM.self (by simp), VM.self (by simp), VM.self (by simp), trivial⟩⟩, ⟨_, rfl, OM.box _ _ ⟨VM.self (by simp), VM.self (by simp), trivial⟩⟩, ⟨_, rfl, OM.box _ _ ⟨VM.rowL (j := 5) (t := 5) rfl (by simp), VM.rowL (j := 3) (t := 3) rfl (by first | rfl | simp | simp_all | omega), VM.rowL (j := 4) (t := 4) rfl (by first | rfl | simp | simp_all | omega), trivial⟩⟩, ⟨_, rfl, OM.row' (by first | rfl | simp_all)⟩, ⟨_, rfl, OM.row' (by first | rfl | simp_all)⟩, ⟨_, rfl, OM.row' rfl⟩, trivial⟩)
   ·rintro i2 ⟨x8, x9, x10⟩ o2 hi2 hw2 h ho2 as1 ob1 ⟨rfl, rfl⟩
    rw [portolanref19_Decode.b2] at h
    refine X_seq ?_
    refine X_seq ?_
    refine X_reg (lx_ok γ) ?_
    simp -implicitDefEqProofs only [go_sem, seval, hi2]
    cases f7 : (x10 == 0)
    ·rw [if_neg (ne_true_of_eq_false f7)] at h
     refine X_cond (lx_ok γ) ?_
     simp -implicitDefEqProofs only [go_sem, seval, hi2, f7]
     obtain rfl := Option.some.inj h
     have h := hk2 _ (.inr (ho2 (fun _ hs => nomatch hs)))
     refine X_exit ?_
     try simp -implicitDefEqProofs only [go_sem, ↓reduceIte, Nat.reduceEqDiff, reduceCtorEq]
     refine kJ_in ?_ ⟨x8, x9, x10, h, rfl, rfl⟩
     exact To.mv [(0, 0), (1, 0), (2, 0), (5, 0), (3, 0), (4, 0)] (BaseR.refl hob) (by simp) (by decide) (by simp only [go_sem]; exact ⟨VM.refA (j := 0) (t := 0) rfl, VM.refA (j := 1) (t := 1) rfl, VM.refA (j := 2) (t := 2) rfl⟩) ⟨⟨_, rfl, OM.box _ _ ⟨VM.self (by simp), VM.self (by simp), VM.self (by simp), trivial⟩⟩, ⟨_, rfl, OM.box _ _ ⟨VM.self (by simp), VM.self (by simp), trivial⟩⟩, ⟨_, rfl, OM.box _ _ ⟨VM.rowL (j := 5) (t := 3) rfl (by first | rfl | simp | simp_all | omega), VM.rowL (j := 3) (t := 4) rfl (by first | rfl | simp | simp_all | omega), VM.rowL (j := 4) (t := 5) rfl (by first | rfl | simp | simp_all | omega), trivial⟩⟩, ⟨_, rfl, OM.row' (by first | rfl | simp_all)⟩, ⟨_, rfl, OM.row' (by first | rfl | simp_all)⟩, ⟨_, rfl, OM.row' (by first | rfl | simp_all)⟩, trivial⟩
    ·rw [if_pos f7] at h
     refine X_cond (lx_ok γ) ?_
     simp -implicitDefEqProofs only [go_sem, seval, hi2, f7]
     refine X_skip ?_
     try simp -implicitDefEqProofs only [go_sem]
     refine X_seq ?_
     refine X_block ?_
     refine X_drawn (lx_ok γ) [[], [0], [], [2], [0, 1, 2, 3], [0, 1, 2, 3, 4], [0, 1, 2, 3, 4, 5]] (fun i => match i with | 2 => true | 3 => true | 4 => true | 6 => true | _ => false) (by kernel_rfl) ?_
     obtain ⟨x14, f8, h⟩ := bindE h
     try simp -implicitDefEqProofs only [go_sem, seval, hi2, f7, cmpr, List.getD_cons_zero, List.getD_cons_succ, List.contains_cons, List.contains_nil, Nat.reduceBEq, Bool.false_or, Bool.or_false, Bool.true_or, Bool.or_true, beq_self_eq_true]
     refine callV_eq (portolanref19_reader_ins_ok γ _ (by simp -implicitDefEqProofs only [go_sem, seval, hi2, f7]; try rfl) f8) rfl rfl ?_
     obtain ⟨x15, f9, h⟩ := bindE h
     have f10 : List.length x15 * 112 ≤ 140737488355328 := by have := (appL_some f9).1; rw [(appL_some f9).2]; simpa using this
     have f11 : List.map e_Mins x8 ++ [[.lit (.int .i64 x14.2.Op), .lit (.int .i64 x14.2.D.Kind), .lit (.int .i64 x14.2.D.N), .lit (.int .i64 x14.2.A.Kind), .lit (.int .i64 x14.2.A.N), .lit (.int .i64 x14.2.B.Kind), .lit (.int .i64 x14.2.B.N), .lit (.int .i64 x14.2.C.Kind), .lit (.int .i64 x14.2.C.N), .lit (.int .i64 x14.2.N), .lit (.int .i64 x14.2.M), .sl 2 false (List.map e_Loc x14.2.Args)]] = List.map e_Mins x15 := by rw [(appL_some f9).2]; simp [eB, eI, eS, e_Mins]
     have f12 : List.length x8 + 1 = List.length x15 := by rw [(appL_some f9).2]; simp
     try simp -implicitDefEqProofs only [go_sem, seval, hi2, f7, f10, f11, f12, cmpr, List.getD_cons_zero, List.getD_cons_succ, List.contains_cons, List.contains_nil, Nat.reduceBEq, Bool.false_or, Bool.or_false, Bool.true_or, Bool.or_true, beq_self_eq_true]
     refine X_reg (lx_ok γ) ?_
     obtain rfl := Option.some.inj h
     simp -implicitDefEqProofs only [go_sem, seval, hi2, f7]
     refine kR_in rfl ?_ ⟨rfl, rfl⟩
     exact To.mv [(0, 0), (1, 0), (2, 0), (3, 0), (4, 0), (5, 1)] (BaseR.refl hob) (by simp) (by decide) (by simp only [go_sem]; exact ⟨VM.refA (j := 0) (t := 0) rfl, VM.refA (j := 1) (t := 1) rfl, VM.refA (j := 2) (t := 2) rfl, VM.self (by simp), VM.eqv (by rw [hw2]) (by simp)⟩) ⟨⟨_, rfl, OM.box _ _ ⟨VM.self (by simp), VM.self (by simp), VM.self (by simp), trivial⟩⟩, ⟨_, rfl, OM.box _ _ ⟨VM.self (by simp), VM.self (by simp), trivial⟩⟩, ⟨_, rfl, OM.box _ _ ⟨VM.rowL (j := 5) (t := 5) rfl (by first | rfl | simp | simp_all | omega), VM.rowL (j := 3) (t := 3) rfl (by first | rfl | simp | simp_all | omega), VM.rowL (j := 4) (t := 4) rfl (by first | rfl | simp | simp_all | omega), trivial⟩⟩, ⟨_, rfl, OM.row' (by first | rfl | simp_all)⟩, ⟨_, rfl, OM.row' (by first | rfl | simp_all)⟩, ⟨_, rfl, OM.row' (by first | rfl | simp_all)⟩, trivial⟩
   ·rintro i2 ⟨x8, x9, x10⟩ hi2 hn2 as1 ob1 ⟨rfl, rfl⟩
    refine X_seq ?_
    refine X_seq ?_
    refine X_reg (lx_ok γ) ?_
    simp -implicitDefEqProofs only [go_sem, seval, hi2]
    refine X_condF (lx_ok γ) rfl ?_
    have h := hk2 _ (.inl hn2)
    refine X_exit ?_
    try simp -implicitDefEqProofs only [go_sem, ↓reduceIte, Nat.reduceEqDiff, reduceCtorEq]
    refine kJ_in ?_ ⟨x8, x9, x10, h, rfl, rfl⟩
    exact To.mv [(0, 0), (1, 0), (2, 0), (5, 0), (3, 0), (4, 0)] (BaseR.refl hob) (by simp) (by decide) (by simp only [go_sem]; exact ⟨VM.refA (j := 0) (t := 0) rfl, VM.refA (j := 1) (t := 1) rfl, VM.refA (j := 2) (t := 2) rfl⟩) ⟨⟨_, rfl, OM.box _ _ ⟨VM.self (by simp), VM.self (by simp), VM.self (by simp), trivial⟩⟩, ⟨_, rfl, OM.box _ _ ⟨VM.self (by simp), VM.self (by simp), trivial⟩⟩, ⟨_, rfl, OM.box _ _ ⟨VM.rowL (j := 5) (t := 3) rfl (by first | rfl | simp | simp_all | omega), VM.rowL (j := 3) (t := 4) rfl (by first | rfl | simp | simp_all | omega), VM.rowL (j := 4) (t := 5) rfl (by first | rfl | simp | simp_all | omega), trivial⟩⟩, ⟨_, rfl, OM.row' (by first | rfl | simp_all)⟩, ⟨_, rfl, OM.row' (by first | rfl | simp_all)⟩, ⟨_, rfl, OM.row' (by first | rfl | simp_all)⟩, trivial⟩
 ·refine X_block ?_
  obtain ⟨lr1, hl1, hk1, hr1⟩ := aft2 h
  refine X_while hl1 (fun (s : (List Int) × (List Int) × (List Int) × Int × Int × Int) as1 ob1 => [(2, V.ref ob.length 0), (4, V.ref (ob.length + 1) 0), (5, V.ref (ob.length + 2) 0), (6, vint .i64 s.2.2.2.2.1), (7, vint .i64 s.2.2.2.2.2)] = as1 ∧ ob ++ [some (O.box [V.tr (.sl 0 true []), V.tr (.sl 0 true []), V.tr (.sl 0 true [])]), some (O.box [V.tr (.sl 1 false (List.map (eI .u8) s.2.2.1)), vint .i64 s.2.2.2.1]), some (O.box [V.tr (.sl 0 true []), V.row (ob.length + 3) 0 0 (List.length s.1), V.row (ob.length + 4) 0 0 (List.length s.2.1)]), some (O.row 1 0 (List.map (eI .i64) s.1)), some (O.row 1 0 (List.map (eI .i64) s.2.1))] = ob1) ⟨_, _, ?_, rfl, rfl⟩ ?_
  ·exact To.trans (To.gh (as' := [(2, _), (4, _), (5, _), (6, _), (7, _)]) (l' := [some (O.box [_, _, _]), some (O.box [_, _]), some (O.box [_, V.row (ob.length + 3) 0 0 0, _])]) 1 ⟨VG.refl _ _ _, VG.refl _ _ _, VG.refl _ _ _, VG.refl _ _ _, VG.refl _ _ _, trivial⟩ ⟨Or.inl rfl, Or.inl rfl, Or.inr ⟨_, _, rfl, rfl, .box _ _ ⟨VG.refl _ _ _, VG.nilL, VG.refl _ _ _, trivial⟩⟩, trivial⟩) (To.trans (To.gh (as' := [(2, _), (4, _), (5, _), (6, _), (7, _)]) (l' := [some (O.box [_, _, _]), some (O.box [_, _]), some (O.box [_, V.row (ob.length + 3) 0 0 0, V.row (ob.length + 4) 0 0 0]), _]) 1 ⟨VG.refl _ _ _, VG.refl _ _ _, VG.refl _ _ _, VG.refl _ _ _, VG.refl _ _ _, trivial⟩ ⟨Or.inl rfl, Or.inl rfl, Or.inr ⟨_, _, rfl, rfl, .box _ _ ⟨VG.refl _ _ _, VG.refl _ _ _, VG.nilL, trivial⟩⟩, Or.inl rfl, trivial⟩) (To.mv [(0, 0), (1, 0), (2, 0), (3, 0), (4, 0)] (BaseR.refl hob) (by simp) (by decide) (by simp only [go_sem]; exact ⟨VM.refA (j := 0) (t := 0) rfl, VM.refA (j := 1) (t := 1) rfl, VM.refA (j := 2) (t := 2) rfl, VM.self (by simp), VM.self (by simp)⟩) ⟨⟨_, rfl, OM.box _ _ ⟨VM.self (by simp), VM.self (by simp), VM.self (by simp), trivial⟩⟩, ⟨_, rfl, OM.box _ _ ⟨VM.self (by simp), VM.self (by simp), trivial⟩⟩, ⟨_, rfl, OM.box _ _ ⟨VM.self (by simp), VM.rowL (j := 3) (t := 3) rfl (by simp), VM.rowL (j := 4) (t := 4) rfl (by simp), trivial⟩⟩, ⟨_, rfl, OM.row' rfl⟩, ⟨_, rfl, OM.row' rfl⟩, trivial⟩))
  ·rintro ⟨x2, x3, x4, x5, x6, x7⟩ o1 h ho1 as1 ob1 ⟨rfl, rfl⟩
   rw [portolanref19_Decode.b1] at h
   refine X_seq ?_
   refine X_seq ?_
   refine X_jq (J := fun as1 ob1 => ∃ (x17 : Bool), portolanref19_Decode.j2 x2 x3 x4 x5 x6 x7 x17 = some o1 ∧ [(2, V.ref ob.length 0), (4, V.ref (ob.length + 1) 0), (5, V.ref (ob.length + 2) 0), (6, vint .i64 x6), (7, vint .i64 x7), (18, vbool x17)] = as1 ∧ ob ++ [some (O.box [V.tr (.sl 0 true []), V.tr (.sl 0 true []), V.tr (.sl 0 true [])]), some (O.box [V.tr (.sl 1 false (List.map (eI .u8) x4)), vint .i64 x5]), some (O.box [V.tr (.sl 0 true []), V.row (ob.length + 3) 0 0 (List.length x2), V.row (ob.length + 4) 0 0 (List.length x3)]), some (O.row 1 0 (List.map (eI .i64) x2)), some (O.row 1 0 (List.map (eI .i64) x3))] = ob1) ?_ ?_
   ·rintro as1 ob1 ⟨x17, h, rfl, rfl⟩
    rw [portolanref19_Decode.j2] at h
    simp -implicitDefEqProofs only [go_sem, seval]
    cases f13 : x17
    ·rw [if_neg (ne_true_of_eq_false f13)] at h
     refine X_cond (lx_ok γ) ?_
     simp -implicitDefEqProofs only [go_sem, seval, f13]
     obtain rfl := Option.some.inj h
     have h := hk1 _ (.inr (ho1 (fun _ hs => nomatch hs)))
     refine X_exit ?_
     try simp -implicitDefEqProofs only [go_sem, ↓reduceIte, Nat.reduceEqDiff, reduceCtorEq]
     refine kJ_in ?_ ⟨x2, x3, x4, x5, x6, h, rfl, rfl⟩
     exact To.mv [(0, 0), (1, 0), (2, 0), (3, 0), (4, 0)] (BaseR.refl hob) (by simp) (by decide) (by simp only [go_sem]; exact ⟨VM.refA (j := 0) (t := 0) rfl, VM.refA (j := 1) (t := 1) rfl, VM.refA (j := 2) (t := 2) rfl, VM.self (by simp)⟩) ⟨⟨_, rfl, OM.box _ _ ⟨VM.self (by simp), VM.self (by simp), VM.self (by simp), trivial⟩⟩, ⟨_, rfl, OM.box _ _ ⟨VM.self (by simp), VM.self (by simp), trivial⟩⟩, ⟨_, rfl, OM.box _ _ ⟨VM.self (by simp), VM.rowL (j := 3) (t := 3) rfl (by first | rfl | simp | simp_all | omega), VM.rowL (j := 4) (t := 4) rfl (by first | rfl | simp | simp_all | omega), trivial⟩⟩, ⟨_, rfl, OM.row' (by first | rfl | simp_all)⟩, ⟨_, rfl, OM.row' (by first | rfl | simp_all)⟩, trivial⟩
    ·rw [if_pos f13] at h
     refine X_cond (lx_ok γ) ?_
     simp -implicitDefEqProofs only [go_sem, seval, f13]
     refine X_skip ?_
     try simp -implicitDefEqProofs only [go_sem]
     refine X_seq ?_
     refine X_block ?_
     refine X_seq ?_
     refine X_reg (lx_ok γ) ?_
     obtain ⟨x18, f14, h⟩ := bindE h
     have f15 : List.length x18 * 8 ≤ 140737488355328 := by have := (appL_some f14).1; rw [(appL_some f14).2]; simpa using this
     have f16 : List.map (eI .i64) x2 ++ [[.lit (.int .i64 x6)]] = List.map (eI .i64) x18 := by rw [(appL_some f14).2]; simp [eB, eI, eS]
     have f17 : List.length x2 + 1 = List.length x18 := by rw [(appL_some f14).2]; simp
     simp -implicitDefEqProofs only [go_sem, seval, f13, f15, f16, f17]
     refine X_seq ?_
     refine X_drawn (lx_ok γ) [[], [0], [], [2], [0, 1, 2, 3], [0, 1, 2, 3, 4], [0, 1, 2, 3, 4, 5]] (fun i => match i with | 2 => true | 4 => true | 6 => true | _ => false) (by kernel_rfl) ?_
     obtain ⟨x19, f18, h⟩ := bindE h
     try simp -implicitDefEqProofs only [go_sem, seval, f13, cmpr, List.getD_cons_zero, List.getD_cons_succ, List.contains_cons, List.contains_nil, Nat.reduceBEq, Bool.false_or, Bool.or_false, Bool.true_or, Bool.or_true, beq_self_eq_true]
     refine callV_eq (portolanref19_reader_num_ok γ _ (by simp -implicitDefEqProofs only [go_sem, seval, f13]; try rfl) f18) rfl rfl ?_
     obtain ⟨x20, f19, h⟩ := bindE h
     have f20 : List.length x20 * 8 ≤ 140737488355328 := by have := (appL_some f19).1; rw [(appL_some f19).2]; simpa using this
     have f21 : List.map (eI .i64) x3 ++ [[.lit (.int .i64 x19.2)]] = List.map (eI .i64) x20 := by rw [(appL_some f19).2]; simp [eB, eI, eS]
     have f22 : List.length x3 + 1 = List.length x20 := by rw [(appL_some f19).2]; simp
     try simp -implicitDefEqProofs only [go_sem, seval, f13, f20, f21, f22, cmpr, List.getD_cons_zero, List.getD_cons_succ, List.contains_cons, List.contains_nil, Nat.reduceBEq, Bool.false_or, Bool.or_false, Bool.true_or, Bool.or_true, beq_self_eq_true]
     refine X_reg (lx_ok γ) ?_
     obtain ⟨x21, f23, h⟩ := bindE h
     simp -implicitDefEqProofs only [go_sem, seval, f13]
     refine callV_eq (portolanref19_reader_num_ok γ _ (by simp -implicitDefEqProofs only [go_sem, seval, f13]; try rfl) f23) rfl rfl ?_
     simp -implicitDefEqProofs only [go_sem, seval, f13]
     refine X_reg (lx_ok γ) ?_
     obtain rfl := Option.some.inj h
     simp -implicitDefEqProofs only [go_sem, seval, f13]
     refine kR_in rfl ?_ ⟨rfl, rfl⟩
     exact To.mv [(0, 0), (1, 0), (2, 0), (3, 1), (4, 1)] (BaseR.refl hob) (by simp) (by decide) (by simp only [go_sem]; exact ⟨VM.refA (j := 0) (t := 0) rfl, VM.refA (j := 1) (t := 1) rfl, VM.refA (j := 2) (t := 2) rfl, VM.self (by simp), VM.self (by simp)⟩) ⟨⟨_, rfl, OM.box _ _ ⟨VM.self (by simp), VM.self (by simp), VM.self (by simp), trivial⟩⟩, ⟨_, rfl, OM.box _ _ ⟨VM.self (by simp), VM.self (by simp), trivial⟩⟩, ⟨_, rfl, OM.box _ _ ⟨VM.self (by simp), VM.rowL (j := 3) (t := 3) rfl (by first | rfl | simp | simp_all | omega), VM.rowL (j := 4) (t := 4) rfl (by first | rfl | simp | simp_all | omega), trivial⟩⟩, ⟨_, rfl, OM.row' (by first | rfl | simp_all)⟩, ⟨_, rfl, OM.row' (by first | rfl | simp_all)⟩, trivial⟩
   ·refine X_reg (lx_ok γ) ?_
    cases f24 : decide (0 < x7)
    ·rw [if_neg (ne_true_of_eq_false f24)] at h
     simp -implicitDefEqProofs only [go_sem, seval, f24]
     refine kJ_in ?_ ⟨false, h, rfl, rfl⟩
     exact To.mv [(0, 0), (1, 0), (2, 0), (3, 0), (4, 0)] (BaseR.refl hob) (by simp) (by decide) (by simp only [go_sem]; exact ⟨VM.refA (j := 0) (t := 0) rfl, VM.refA (j := 1) (t := 1) rfl, VM.refA (j := 2) (t := 2) rfl, VM.self (by simp), VM.self (by simp), VM.self (by simp)⟩) ⟨⟨_, rfl, OM.box _ _ ⟨VM.self (by simp), VM.self (by simp), VM.self (by simp), trivial⟩⟩, ⟨_, rfl, OM.box _ _ ⟨VM.self (by simp), VM.self (by simp), trivial⟩⟩, ⟨_, rfl, OM.box _ _ ⟨VM.self (by simp), VM.rowL (j := 3) (t := 3) rfl (by first | rfl | simp | simp_all | omega), VM.rowL (j := 4) (t := 4) rfl (by first | rfl | simp | simp_all | omega), trivial⟩⟩, ⟨_, rfl, OM.row' (by first | rfl | simp_all)⟩, ⟨_, rfl, OM.row' (by first | rfl | simp_all)⟩, trivial⟩
    ·rw [if_pos f24] at h
     simp -implicitDefEqProofs only [go_sem, seval, f24]
     refine kJ_in ?_ ⟨(x5 == 0), h, rfl, rfl⟩
     exact To.mv [(0, 0), (1, 0), (2, 0), (3, 0), (4, 0)] (BaseR.refl hob) (by simp) (by decide) (by simp only [go_sem]; exact ⟨VM.refA (j := 0) (t := 0) rfl, VM.refA (j := 1) (t := 1) rfl, VM.refA (j := 2) (t := 2) rfl, VM.self (by simp), VM.self (by simp), VM.self (by simp)⟩) ⟨⟨_, rfl, OM.box _ _ ⟨VM.self (by simp), VM.self (by simp), VM.self (by simp), trivial⟩⟩, ⟨_, rfl, OM.box _ _ ⟨VM.self (by simp), VM.self (by simp), trivial⟩⟩, ⟨_, rfl, OM.box _ _ ⟨VM.self (by simp), VM.rowL (j := 3) (t := 3) rfl (by first | rfl | simp | simp_all | omega), VM.rowL (j := 4) (t := 4) rfl (by first | rfl | simp | simp_all | omega), trivial⟩⟩, ⟨_, rfl, OM.row' (by first | rfl | simp_all)⟩, ⟨_, rfl, OM.row' (by first | rfl | simp_all)⟩, trivial⟩
end Go.Pf
end
section
set_option maxRecDepth 100000
namespace Go.Pf
open Go Go.Ab Go.Pp Go.Proofs Go.Proofs.S19
attribute [local go_sem] Lxτ Lxγ gam0 Int.toNat_natCast tau3 tau4 tau5 tau22 tau23 tau25 tau28 tau29 tau46 tau47 tau49 eI eB eS e_Loc e_Mins e_Text e_text_room e_text_reader e_portolanref19_reader
set_option maxHeartbeats 1000000 in
theorem portolanlaw19_TextDecodes_ok (γ : GT) (ob : OT) {a0 : List Int} {r : Bool} (h : portolanlaw19_TextDecodes a0 = some r) :
  Valid (Lx γ) 4 [V.tr (.sl 1 false (List.map (eI .u8) a0))] ob (vbool r) ob := by
 refine valid_X (lx_ok γ) (fn := Tryd.f4) (rs := [.tmp 2]) Tryd.func4 (by kernel_rfl) rfl rfl Tryd.ntmps4 rfl (by simp) fun hb hob => ?_
 rw [portolanlaw19_TextDecodes] at h
 refine X_seq ?_
 refine X_reg (lx_ok γ) ?_
 simp -implicitDefEqProofs only [go_sem, seval]
 refine X_seq ?_
 refine X_seq ?_
 refine X_reg (lx_ok γ) ?_
 obtain ⟨x1, f1, h⟩ := bindE h
 simp -implicitDefEqProofs only [go_sem, seval]
 refine callV_eq (portolanlaw19_alive_ok γ _  f1) rfl rfl ?_
 simp -implicitDefEqProofs only [go_sem, seval]
 cases f2 : x1
 ·rw [if_neg (ne_true_of_eq_false f2)] at h
  refine X_cond (lx_ok γ) ?_
  simp -implicitDefEqProofs only [go_sem, seval, f2]
  refine X_seq ?_
  refine X_reg (lx_ok γ) ?_
  simp -implicitDefEqProofs only [go_sem, seval, f2]
  obtain rfl := Option.some.inj h
  refine X_ret ?_
  simp -implicitDefEqProofs only [go_sem, seval, f2]
  exact Rt.mv1 (BaseR.refl hob) (by simp) (VM.self (by simp))
 ·rw [if_pos f2] at h
  refine X_cond (lx_ok γ) ?_
  simp -implicitDefEqProofs only [go_sem, seval, f2]
  refine X_skip ?_
  try simp -implicitDefEqProofs only [go_sem]
  refine X_seq ?_
  refine X_seq ?_
  refine X_reg (lx_ok γ) ?_
  simp -implicitDefEqProofs only [go_sem, seval, f2]
  cases f3 : decide (5000 < (List.length a0 : Int))
  ·rw [if_neg (ne_true_of_eq_false f3)] at h
   refine X_cond (lx_ok γ) ?_
   simp -implicitDefEqProofs only [go_sem, seval, f2, f3]
   refine X_skip ?_
   try simp -implicitDefEqProofs only [go_sem]
   refine X_seq ?_
   refine X_reg (lx_ok γ) ?_
   obtain ⟨x2, f4, h⟩ := bindE h
   simp -implicitDefEqProofs only [go_sem, seval, f2, f3]
   refine callV_eq (text_Decode_ok γ _  f4) rfl rfl ?_
   simp -implicitDefEqProofs only [go_sem, seval, f2, f3]
   refine X_seq ?_
   refine X_reg (lx_ok γ) ?_
   obtain ⟨x3, f5, h⟩ := bindE h
   simp -implicitDefEqProofs only [go_sem, seval, f2, f3]
   refine callV_eq (portolanref19_Decode_ok γ _  f5) rfl rfl ?_
   simp -implicitDefEqProofs only [go_sem, seval, f2, f3]
   refine X_seq ?_
   refine X_reg (lx_ok γ) ?_
   obtain ⟨x4, f6, h⟩ := bindE h
   simp -implicitDefEqProofs only [go_sem, seval, f2, f3]
   refine callV_eq (portolanref19_Same_ok γ _ (by simp -implicitDefEqProofs only [go_sem, seval, f2, f3]; try rfl) (by simp -implicitDefEqProofs only [go_sem, seval, f2, f3]; try rfl) (by simp -implicitDefEqProofs only [go_sem, seval, f2, f3]; try rfl) (by simp -implicitDefEqProofs only [go_sem, seval, f2, f3]; try rfl) (by simp -implicitDefEqProofs only [go_sem, seval, f2, f3]; try rfl) (by simp -implicitDefEqProofs only [go_sem, seval, f2, f3]; try rfl) f6) rfl rfl ?_
   cases f7 : x4
   ·rw [if_neg (ne_true_of_eq_false f7)] at h
    simp -implicitDefEqProofs only [go_sem, seval, f2, f3, f7]
    obtain rfl := Option.some.inj h
    refine X_ret ?_
    simp -implicitDefEqProofs only [go_sem, seval, f2, f3, f7]
    exact Rt.mv0 (BaseR.refl hob) (by simp) (VM.self (by simp))
   ·rw [if_pos f7] at h
    simp -implicitDefEqProofs only [go_sem, seval, f2, f3, f7]
    obtain rfl := Option.some.inj h
    refine X_ret ?_
    simp -implicitDefEqProofs only [go_sem, seval, f2, f3, f7]
    exact Rt.mv0 (BaseR.refl hob) (by simp) (VM.self (by simp))
  ·rw [if_pos f3] at h
   refine X_cond (lx_ok γ) ?_
   simp -implicitDefEqProofs only [go_sem, seval, f2, f3]
   refine X_seq ?_
   refine X_reg (lx_ok γ) ?_
   simp -implicitDefEqProofs only [go_sem, seval, f2, f3]
   obtain rfl := Option.some.inj h
   refine X_ret ?_
   simp -implicitDefEqProofs only [go_sem, seval, f2, f3]
   exact Rt.mv1 (BaseR.refl hob) (by simp) (VM.self (by simp))
end Go.Pf
end
