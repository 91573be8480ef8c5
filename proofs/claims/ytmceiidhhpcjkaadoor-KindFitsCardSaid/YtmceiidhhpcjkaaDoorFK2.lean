/- Each function computes what its plain one says, part 2 -/
import Derived.Test.YtmceiidhhpcjkaaDoorFK1
set_option linter.all false
section
set_option maxRecDepth 100000
namespace Go.Pf
open Go Go.Ab Go.Pp Go.Proofs Go.Proofs.S08
attribute [local go_sem] Lxτ Lxγ gam0 gam1 Int.toNat_natCast tau3 tau25 tau27 tau33 tau35 tau36 tau38 tau41 tau60 tau62 tau64 eI eB eS e_Ins e_Block e_Func e_Prog e_kind_state eL_Intu64
set_option maxHeartbeats 1000000 in
theorem kind_asked_ok (γ : GT) (ob : OT) {a0 : Func} {v0_0 : V} {v0_1 : V} {v0_4 : V} {a1 : kind_state → Int → Option (Bool)} {w1 : V} (hv0_0 : rdK (getO ob) 1 v0_0 = some (List.map (eI .i64) a0.Kinds)) (hv0_1 : rdK (getO ob) 1 v0_1 = some (List.map (eI .i64) a0.Base)) (hv0_4 : rdK (getO ob) 1 v0_4 = some (List.map e_Block a0.Blocks)) (hf1 : ∀ (ob1 : OT), ob <+: ob1 → ∀ (y0 : kind_state) (y1 : Int) (r : Bool), a1 y0 y1 = some r → FnV (Lx γ) w1 [V.agg [V.tr (.sl 1 false (List.map (eI .u64) y0.set)), V.tr (.sl 1 false (List.map (eI .u64) y0.fresh))], vint .i64 y1] ob1 (vbool r) ob1) {r : Bool} (h : kind_asked a0 a1 = some r) :
  Valid (Lx γ) 30 [V.agg [v0_0, v0_1, vint .i64 a0.Params, vint .i64 a0.Result, v0_4], w1] ob (vbool r) ob := by
 refine valid_X (lx_ok γ) (fn := Tryd.f30) (rs := [.tmp 4]) Tryd.func30 (by kernel_rfl) rfl rfl Tryd.ntmps30 rfl (by simp) fun hb hob => ?_
 have hq := And.intro (rd4 hv0_0) (And.intro (rd4 hv0_1) (rd4 hv0_4))
 rw [kind_asked] at h
 refine X_sr (lx_ok γ) ?_
 simp -implicitDefEqProofs only [go_sem, seval, hq]
 refine X_seq ?_
 refine X_sr (lx_ok γ) ?_
 obtain ⟨x1, f1, h⟩ := bindE h
 simp -implicitDefEqProofs only [go_sem, seval, hq]
 refine callV_eq (kind_states_ok γ _ (by first | exact rdK_app hv0_0 | exact hv0_0) (by first | exact rdK_app hv0_1 | exact hv0_1) (by first | exact rdK_app hv0_4 | exact hv0_4) f1) rfl rfl ?_
 simp -implicitDefEqProofs only [go_sem, seval, hq]
 refine X_jq (J := fun as1 ob1 => kind_asked.k1 = some r ∧ [] = as1 ∧ ob = ob1) ?_ ?_
 ·rintro as1 ob1 ⟨h, rfl, rfl⟩
  rw [kind_asked.k1] at h
  simp -implicitDefEqProofs only [go_sem, seval, hq]
  refine X_sr (lx_ok γ) ?_
  simp -implicitDefEqProofs only [go_sem, seval, hq]
  obtain rfl := sI h
  refine X_ret ?_
  simp -implicitDefEqProofs only [go_sem, seval, hq]
  exact Rt.mv1 (BaseR.refl hob) (by simp) (vS)
 ·refine X_block ?_
  obtain ⟨o1, hl1, hk1, hr1⟩ := aft2 h
  refine X_rangeM hl1 (fun (x2 : List Nat) as1 ob1 => [(1, w1), (2, V.ref ob.length 0), (13, V.ref (ob.length + 1) 0)] = as1 ∧ ob ++ [some (O.box [v0_0, v0_1, vint .i64 a0.Params, vint .i64 a0.Result, v0_4]), some (O.mit (ob.length + 2) (List.length x1) x2), some (O.mp (List.map Prod.fst x1) (List.map (sndV m_kind_state) x1))] = ob1) ⟨_, _, ?_, rfl, rfl⟩ ?_
  ·exact To.mv [(0, 0), (2, 0), (1, 0)] (BaseR.refl hob) (by simp) (by decide) (by simp only [go_sem]; exact ⟨VM.self (by simpa using hb w1 (by simp)), VM.refA (j := 0) (t := 0) rfl, VM.refA (j := 2) (t := 1) rfl⟩) ⟨⟨_, rfl, OM.box _ _ ⟨VM.self (by simpa using Bd.of_rdK hv0_0), VM.self (by simpa using Bd.of_rdK hv0_1), vS, vS, VM.self (by simpa using Bd.of_rdK hv0_4), trivial⟩⟩, ⟨_, rfl, OM.mitA (j := 1) (t := 2) rfl⟩, ⟨_, rfl, OM.mpS (fun x => by simp [m_kind_state])⟩, trivial⟩
  ·rintro x2 hn1 as1 ob1 ⟨rfl, rfl⟩
   refine X_seq ?_
   refine X_nextMS (lx_ok γ) (g := m_kind_state) (l := x1) (seen := x2) (i := (ob.length + 1)) (mm := (ob.length + 2)) rfl rfl rfl (by simp -implicitDefEqProofs only [go_sem, seval, hq]; try rfl) (by simp -implicitDefEqProofs only [go_sem, seval, hq]; try rfl) (by first | rfl | simp) ?_ ?_
   ·rintro j1 x3 hp1 hs1
    obtain ⟨o1B, hb1, ho1⟩ := rangeM_one hl1 hp1
    have h := hb1
    rw [kind_asked.b1] at h
    have hg1 : m_kind_state x3.2 = V.agg [V.tr (.sl 1 false (List.map (eI .u64) x3.2.set)), V.tr (.sl 1 false (List.map (eI .u64) x3.2.fresh))] := rfl
    have hk1A : (List.map Prod.fst x1)[j1]? = some x3.1 := by rw [List.getElem?_map, hp1]; rfl
    have hk1B : (List.map (sndV m_kind_state) x1)[j1]? = some (V.agg [V.tr (.sl 1 false (List.map (eI .u64) x3.2.set)), V.tr (.sl 1 false (List.map (eI .u64) x3.2.fresh))]) := by rw [List.getElem?_map, hp1]; rfl
    have hl1L : (x2 ++ [j1]).getLast? = some j1 := by simp
    simp -implicitDefEqProofs only [go_sem, seval, hq, hg1, hk1A, hk1B, hl1L]
    refine X_seq ?_
    refine X_condT (lx_ok γ) rfl ?_
    refine X_skip ?_
    try simp -implicitDefEqProofs only [go_sem]
    refine X_block ?_
    refine X_sr (lx_ok γ) ?_
    simp -implicitDefEqProofs only [go_sem, seval, hq, hg1, hk1A, hk1B, hl1L]
    refine X_sr (lx_ok γ) ?_
    obtain ⟨x4, f2, h⟩ := bindE h
    obtain ⟨f3, f4, f5⟩ := ixL_some f2
    try simp only [Int.toNat_natCast, Int.reduceToNat] at f5
    simp -implicitDefEqProofs only [go_sem, seval, hq, hg1, hk1A, hk1B, hl1L, f3, f4, f5]
    refine X_jq (J := fun as1 ob1 => kind_asked.k2 = some o1B ∧ [(1, w1), (2, V.ref ob.length 0), (13, V.ref (ob.length + 1) 0)] = as1 ∧ ob ++ [some (O.box [v0_0, v0_1, vint .i64 a0.Params, vint .i64 a0.Result, v0_4]), some (O.mit (ob.length + 2) (List.length x1) (x2 ++ [j1])), some (O.mp (List.map Prod.fst x1) (List.map (sndV m_kind_state) x1))] = ob1) ?_ ?_
    ·rintro as1 ob1 ⟨h, rfl, rfl⟩
     rw [kind_asked.k2] at h
     obtain rfl := sI h
     simp -implicitDefEqProofs only [go_sem, seval, hq, hg1, hk1A, hk1B, hl1L]
     refine kM_in hp1 hs1 hb1 ?_ ⟨rfl, rfl⟩
     exact To.mv [(0, 0), (1, 0), (2, 0)] (BaseR.refl hob) (by simp) (by decide) (by simp only [go_sem]; exact ⟨VM.self (by simpa using hb w1 (by simp)), VM.refA (j := 0) (t := 0) rfl, VM.refA (j := 1) (t := 1) rfl⟩) ⟨⟨_, rfl, OM.box _ _ ⟨VM.self (by simpa using Bd.of_rdK hv0_0), VM.self (by simpa using Bd.of_rdK hv0_1), vS, vS, VM.self (by simpa using Bd.of_rdK hv0_4), trivial⟩⟩, ⟨_, rfl, OM.mitA (j := 2) (t := 2) rfl⟩, ⟨_, rfl, OM.mpS (fun x => by simp [m_kind_state])⟩, trivial⟩
    ·refine X_block ?_
     obtain ⟨lr2, hl2, hk2, hr2⟩ := aft2 h
     refine X_forN hl2 (fun (i2 : Nat) (s : (List Int) × (List Int)) as1 ob1 => [(1, w1), (2, V.ref ob.length 0), (6, V.ref (ob.length + 1) 0), (13, V.ref (ob.length + 2) 0), (24, V.tr (.sl 7 false (List.map e_Ins x4.Code))), (25, vint .i64 (List.length x4.Code : Int)), (26, vint .i64 (i2 : Int))] = as1 ∧ ob ++ [some (O.box [v0_0, v0_1, vint .i64 a0.Params, vint .i64 a0.Result, v0_4]), some (O.box [V.tr (.sl 1 false (List.map (eI .u64) s.1)), V.tr (.sl 1 false (List.map (eI .u64) s.2))]), some (O.mit (ob.length + 3) (List.length x1) (x2 ++ [j1])), some (O.mp (List.map Prod.fst x1) (List.map (sndV m_kind_state) x1))] = ob1) ⟨_, _, ?_, rfl, rfl⟩ ?_ ?_
     ·exact To.mv [(0, 0), (3, 0), (1, 0), (2, 0)] (BaseR.refl hob) (by simp) (by decide) (by simp only [go_sem]; exact ⟨VM.self (by simpa using hb w1 (by simp)), VM.refA (j := 0) (t := 0) rfl, VM.refA (j := 3) (t := 1) rfl, VM.refA (j := 1) (t := 2) rfl, vS, vS, VM.eqv (by simp) (by simp)⟩) ⟨⟨_, rfl, OM.box _ _ ⟨VM.self (by simpa using Bd.of_rdK hv0_0), VM.self (by simpa using Bd.of_rdK hv0_1), vS, vS, VM.self (by simpa using Bd.of_rdK hv0_4), trivial⟩⟩, ⟨_, rfl, OM.box _ _ ⟨vS, vS, trivial⟩⟩, ⟨_, rfl, OM.mitA (j := 2) (t := 3) rfl⟩, ⟨_, rfl, OM.mpS (fun x => by simp [m_kind_state])⟩, trivial⟩
     ·rintro i2 ⟨x5, x6⟩ o2 hi2 hw2 h ho2 as1 ob1 ⟨rfl, rfl⟩
      rw [kind_asked.b2] at h
      refine X_sr (lx_ok γ) ?_
      simp -implicitDefEqProofs only [go_sem, seval, hi2, hq, hg1, hk1A, hk1B, hl1L]
      refine X_seq ?_
      refine X_cond (lx_ok γ) ?_
      simp -implicitDefEqProofs only [go_sem, seval, hi2, hq, hg1, hk1A, hk1B, hl1L]
      refine X_skip ?_
      try simp -implicitDefEqProofs only [go_sem]
      refine X_seq ?_
      refine X_block ?_
      refine X_sr (lx_ok γ) ?_
      obtain ⟨x8, f6, h⟩ := bindE h
      obtain ⟨f7, f8⟩ := ixL_nat f6
      have f9 : (0 : Int) ≤ (i2 : Int) := Int.natCast_nonneg _
      simp -implicitDefEqProofs only [go_sem, seval, hi2, hq, hg1, hk1A, hk1B, hl1L, f7, f8, f9]
      refine X_seq ?_
      refine X_sr (lx_ok γ) ?_
      obtain ⟨x9, f10, h⟩ := bindE h
      simp -implicitDefEqProofs only [go_sem, seval, hi2, hq, hg1, hk1A, hk1B, hl1L]
      refine callV_eq (shape_Uses_ok γ _ (by simp -implicitDefEqProofs only [go_sem, seval, hi2, hq, hg1, hk1A, hk1B, hl1L]; try rfl) f10) rfl rfl ?_
      simp -implicitDefEqProofs only [go_sem, seval, hi2, hq, hg1, hk1A, hk1B, hl1L]
      refine X_jq (J := fun as1 ob1 => kind_asked.k3 a0 x5 x6 x8 = some o2 ∧ [(1, w1), (2, V.ref ob.length 0), (6, V.ref (ob.length + 1) 0), (8, V.ref (ob.length + 2) 0), (13, V.ref (ob.length + 3) 0), (24, V.tr (.sl 7 false (List.map e_Ins x4.Code))), (25, vint .i64 (List.length x4.Code : Int)), (26, vint .i64 (i2 : Int))] = as1 ∧ ob ++ [some (O.box [v0_0, v0_1, vint .i64 a0.Params, vint .i64 a0.Result, v0_4]), some (O.box [V.tr (.sl 1 false (List.map (eI .u64) x5)), V.tr (.sl 1 false (List.map (eI .u64) x6))]), some (O.box [vint .i64 x8.Op, vint .i64 x8.D, vint .i64 x8.A, vint .i64 x8.B, vint .i64 x8.N, vint .i64 x8.M, V.tr (.sl 1 false (List.map (eI .i64) x8.Args))]), some (O.mit (ob.length + 4) (List.length x1) (x2 ++ [j1])), some (O.mp (List.map Prod.fst x1) (List.map (sndV m_kind_state) x1))] = ob1) ?_ ?_
      ·rintro as1 ob1 ⟨h, rfl, rfl⟩
       rw [kind_asked.k3] at h
       simp -implicitDefEqProofs only [go_sem, seval, hi2, hq, hg1, hk1A, hk1B, hl1L]
       refine X_reg (lx_ok γ) ?_
       obtain ⟨x11, f11, h⟩ := bindE h
       simp -implicitDefEqProofs only [go_sem, seval, hi2, hq, hg1, hk1A, hk1B, hl1L]
       refine callV_eq (kind_state_behind_ok γ _ (by first | exact rdK_app hv0_0 | exact hv0_0) (by first | exact rdK_app hv0_1 | exact hv0_1) (by first | exact rdK_app hv0_4 | exact hv0_4) (by simp -implicitDefEqProofs only [go_sem, seval, hi2, hq, hg1, hk1A, hk1B, hl1L]; try rfl) f11) rfl rfl ?_
       simp -implicitDefEqProofs only [go_sem, seval, hi2, hq, hg1, hk1A, hk1B, hl1L]
       refine X_reg (lx_ok γ) ?_
       obtain rfl := sI h
       simp -implicitDefEqProofs only [go_sem, seval, hi2, hq, hg1, hk1A, hk1B, hl1L]
       refine kR_in rfl ?_ ⟨rfl, rfl⟩
       exact To.mv [(0, 0), (1, 0), (3, 0), (4, 0)] (BaseR.refl hob) (by simp) (by decide) (by simp only [go_sem]; exact ⟨VM.self (by simpa using hb w1 (by simp)), VM.refA (j := 0) (t := 0) rfl, VM.refA (j := 1) (t := 1) rfl, VM.refA (j := 3) (t := 2) rfl, vS, vS, VM.eqv (by rw [hw2]) (by simp)⟩) ⟨⟨_, rfl, OM.box _ _ ⟨VM.self (by simpa using Bd.of_rdK hv0_0), VM.self (by simpa using Bd.of_rdK hv0_1), vS, vS, VM.self (by simpa using Bd.of_rdK hv0_4), trivial⟩⟩, ⟨_, rfl, OM.box _ _ ⟨vS, vS, trivial⟩⟩, ⟨_, rfl, OM.mitA (j := 4) (t := 3) rfl⟩, ⟨_, rfl, OM.mpS (fun x => by simp [m_kind_state])⟩, trivial⟩
      ·refine X_block ?_
       obtain ⟨lr3, hl3, hk3, hr3⟩ := aft2 h
       refine X_forN hl3 (fun (i3 : Nat) (s : Unit) as1 ob1 => [(1, w1), (2, V.ref ob.length 0), (6, V.ref (ob.length + 1) 0), (8, V.ref (ob.length + 2) 0), (13, V.ref (ob.length + 3) 0), (24, V.tr (.sl 7 false (List.map e_Ins x4.Code))), (25, vint .i64 (List.length x4.Code : Int)), (26, vint .i64 (i2 : Int)), (31, V.row (ob.length + 5) 0 0 (List.length x9)), (32, vint .i64 (List.length x9 : Int)), (33, vint .i64 (i3 : Int))] = as1 ∧ ob ++ [some (O.box [v0_0, v0_1, vint .i64 a0.Params, vint .i64 a0.Result, v0_4]), some (O.box [V.tr (.sl 1 false (List.map (eI .u64) x5)), V.tr (.sl 1 false (List.map (eI .u64) x6))]), some (O.box [vint .i64 x8.Op, vint .i64 x8.D, vint .i64 x8.A, vint .i64 x8.B, vint .i64 x8.N, vint .i64 x8.M, V.tr (.sl 1 false (List.map (eI .i64) x8.Args))]), some (O.mit (ob.length + 4) (List.length x1) (x2 ++ [j1])), some (O.mp (List.map Prod.fst x1) (List.map (sndV m_kind_state) x1)), some (O.row 1 0 (List.map (eI .i64) x9))] = ob1) ⟨_, _, ?_, rfl, rfl⟩ ?_ ?_
       ·exact To.mv [(0, 0), (1, 0), (4, 0), (2, 0), (3, 0), (5, 0)] (BaseR.refl hob) (by simp) (by decide) (by simp only [go_sem]; exact ⟨VM.self (by simpa using hb w1 (by simp)), VM.refA (j := 0) (t := 0) rfl, VM.refA (j := 1) (t := 1) rfl, VM.refA (j := 4) (t := 2) rfl, VM.refA (j := 2) (t := 3) rfl, vS, vS, vS, VM.rowL (j := 5) (t := 5) rfl (by first | rfl | omega | (simp [*]; done) | simp | simp_all), vS, VM.eqv (by simp) (by simp)⟩) ⟨⟨_, rfl, OM.box _ _ ⟨VM.self (by simpa using Bd.of_rdK hv0_0), VM.self (by simpa using Bd.of_rdK hv0_1), vS, vS, VM.self (by simpa using Bd.of_rdK hv0_4), trivial⟩⟩, ⟨_, rfl, OM.box _ _ ⟨vS, vS, trivial⟩⟩, ⟨_, rfl, OM.box _ _ ⟨vS, vS, vS, vS, vS, vS, vS, trivial⟩⟩, ⟨_, rfl, OM.mitA (j := 3) (t := 4) rfl⟩, ⟨_, rfl, OM.mpS (fun x => by simp [m_kind_state])⟩, ⟨_, rfl, OM.row' (by first | rfl | simp_all)⟩, trivial⟩
       ·rintro i3 _ o3 hi3 hw3 h ho3 as1 ob1 ⟨rfl, rfl⟩
        rw [kind_asked.b3] at h
        refine X_sr (lx_ok γ) ?_
        simp -implicitDefEqProofs only [go_sem, seval, hi2, hi3, hq, hg1, hk1A, hk1B, hl1L]
        refine X_seq ?_
        refine X_cond (lx_ok γ) ?_
        simp -implicitDefEqProofs only [go_sem, seval, hi2, hi3, hq, hg1, hk1A, hk1B, hl1L]
        refine X_skip ?_
        try simp -implicitDefEqProofs only [go_sem]
        refine X_seq ?_
        refine X_block ?_
        refine X_sr (lx_ok γ) ?_
        obtain ⟨x12, f12, h⟩ := bindE h
        obtain ⟨f13, f14⟩ := ixL_nat f12
        have f15 : (0 : Int) ≤ (i3 : Int) := Int.natCast_nonneg _
        simp -implicitDefEqProofs only [go_sem, seval, hi2, hi3, hq, hg1, hk1A, hk1B, hl1L, f13, f14, f15]
        refine X_sr (lx_ok γ) ?_
        obtain ⟨x13, f16, h⟩ := bindE h
        simp -implicitDefEqProofs only [go_sem, seval, hi2, hi3, hq, hg1, hk1A, hk1B, hl1L]
        refine callV_fn (hf1 _ (List.prefix_append _ _) _ _ _ f16) rfl rfl ?_
        simp -implicitDefEqProofs only [go_sem, seval, hi2, hi3, hq, hg1, hk1A, hk1B, hl1L]
        cases f17 : x13
        ·rw [if_neg (nF f17)] at h
         refine X_cond (lx_ok γ) ?_
         simp -implicitDefEqProofs only [go_sem, seval, hi2, hi3, f17, hq, hg1, hk1A, hk1B, hl1L]
         refine X_skip ?_
         try simp -implicitDefEqProofs only [go_sem]
         refine X_reg (lx_ok γ) ?_
         obtain rfl := sI h
         simp -implicitDefEqProofs only [go_sem, seval, hi2, hi3, f17, hq, hg1, hk1A, hk1B, hl1L]
         refine kR_in rfl ?_ ⟨rfl, rfl⟩
         exact To.mv [(0, 0), (1, 0), (2, 0), (3, 0), (4, 0), (5, 0)] (BaseR.refl hob) (by simp) (by decide) (by simp only [go_sem]; exact ⟨VM.self (by simpa using hb w1 (by simp)), VM.refA (j := 0) (t := 0) rfl, VM.refA (j := 1) (t := 1) rfl, VM.refA (j := 2) (t := 2) rfl, VM.refA (j := 3) (t := 3) rfl, vS, vS, vS, VM.rowL (j := 5) (t := 5) rfl (by first | rfl | omega | (simp [*]; done) | simp | simp_all), vS, VM.eqv (by rw [hw3]) (by simp)⟩) ⟨⟨_, rfl, OM.box _ _ ⟨VM.self (by simpa using Bd.of_rdK hv0_0), VM.self (by simpa using Bd.of_rdK hv0_1), vS, vS, VM.self (by simpa using Bd.of_rdK hv0_4), trivial⟩⟩, ⟨_, rfl, OM.box _ _ ⟨vS, vS, trivial⟩⟩, ⟨_, rfl, OM.box _ _ ⟨vS, vS, vS, vS, vS, vS, vS, trivial⟩⟩, ⟨_, rfl, OM.mitA (j := 4) (t := 4) rfl⟩, ⟨_, rfl, OM.mpS (fun x => by simp [m_kind_state])⟩, ⟨_, rfl, OM.row' (by first | rfl | simp_all)⟩, trivial⟩
        ·rw [if_pos f17] at h
         refine X_cond (lx_ok γ) ?_
         simp -implicitDefEqProofs only [go_sem, seval, hi2, hi3, f17, hq, hg1, hk1A, hk1B, hl1L]
         refine X_sr (lx_ok γ) ?_
         simp -implicitDefEqProofs only [go_sem, seval, hi2, hi3, f17, hq, hg1, hk1A, hk1B, hl1L]
         obtain rfl := sI h
         have h := hr3 _ (ho3 (fun _ hs => nomatch hs))
         obtain rfl := sI h
         have h := hr2 _ (ho2 (fun _ hs => nomatch hs))
         obtain rfl := sI h
         have h := hr1 _ (ho1 (fun _ hs => nomatch hs))
         obtain rfl := sI h
         refine X_ret ?_
         simp -implicitDefEqProofs only [go_sem, seval, hi2, hi3, f17, hq, hg1, hk1A, hk1B, hl1L]
         exact Rt.mv0 (BaseR.refl hob) (by simp) (vS)
       ·rintro i3 _ hi3 hn3 as1 ob1 ⟨rfl, rfl⟩
        refine X_sr (lx_ok γ) ?_
        simp -implicitDefEqProofs only [go_sem, seval, hi2, hi3, hq, hg1, hk1A, hk1B, hl1L]
        refine X_seq ?_
        refine X_cond (lx_ok γ) ?_
        simp -implicitDefEqProofs only [go_sem, seval, hi2, hi3, hq, hg1, hk1A, hk1B, hl1L]
        have h := hk3 _ (.inl hn3)
        refine X_exit ?_
        try simp -implicitDefEqProofs only [go_sem, ↓reduceIte, Nat.reduceEqDiff, reduceCtorEq]
        refine kJ_in ?_ ⟨h, rfl, rfl⟩
        exact To.mv [(0, 0), (1, 0), (2, 0), (3, 0), (4, 0)] (BaseR.refl hob) (by simp) (by decide) (by simp only [go_sem]; exact ⟨VM.self (by simpa using hb w1 (by simp)), VM.refA (j := 0) (t := 0) rfl, VM.refA (j := 1) (t := 1) rfl, VM.refA (j := 2) (t := 2) rfl, VM.refA (j := 3) (t := 3) rfl, vS, vS, vS⟩) ⟨⟨_, rfl, OM.box _ _ ⟨VM.self (by simpa using Bd.of_rdK hv0_0), VM.self (by simpa using Bd.of_rdK hv0_1), vS, vS, VM.self (by simpa using Bd.of_rdK hv0_4), trivial⟩⟩, ⟨_, rfl, OM.box _ _ ⟨vS, vS, trivial⟩⟩, ⟨_, rfl, OM.box _ _ ⟨vS, vS, vS, vS, vS, vS, vS, trivial⟩⟩, ⟨_, rfl, OM.mitA (j := 4) (t := 4) rfl⟩, ⟨_, rfl, OM.mpS (fun x => by simp [m_kind_state])⟩, trivial⟩
     ·rintro i2 ⟨x5, x6⟩ hi2 hn2 as1 ob1 ⟨rfl, rfl⟩
      refine X_sr (lx_ok γ) ?_
      simp -implicitDefEqProofs only [go_sem, seval, hi2, hq, hg1, hk1A, hk1B, hl1L]
      refine X_seq ?_
      refine X_cond (lx_ok γ) ?_
      simp -implicitDefEqProofs only [go_sem, seval, hi2, hq, hg1, hk1A, hk1B, hl1L]
      have h := hk2 _ (.inl hn2)
      refine X_exit ?_
      try simp -implicitDefEqProofs only [go_sem, ↓reduceIte, Nat.reduceEqDiff, reduceCtorEq]
      refine kJ_in ?_ ⟨h, rfl, rfl⟩
      exact To.mv [(0, 0), (2, 0), (3, 0)] (BaseR.refl hob) (by simp) (by decide) (by simp only [go_sem]; exact ⟨VM.self (by simpa using hb w1 (by simp)), VM.refA (j := 0) (t := 0) rfl, VM.refA (j := 2) (t := 1) rfl⟩) ⟨⟨_, rfl, OM.box _ _ ⟨VM.self (by simpa using Bd.of_rdK hv0_0), VM.self (by simpa using Bd.of_rdK hv0_1), vS, vS, VM.self (by simpa using Bd.of_rdK hv0_4), trivial⟩⟩, ⟨_, rfl, OM.mitA (j := 3) (t := 2) rfl⟩, ⟨_, rfl, OM.mpS (fun x => by simp [m_kind_state])⟩, trivial⟩
   ·intro hal1
    have hn1 := hn1 hal1
    simp -implicitDefEqProofs only [go_sem, seval, hq]
    refine X_seq ?_
    refine X_condF (lx_ok γ) rfl ?_
    have h := hk1 _ (.inl hn1)
    refine X_exit ?_
    try simp -implicitDefEqProofs only [go_sem, ↓reduceIte, Nat.reduceEqDiff, reduceCtorEq]
    refine kJ_in ?_ ⟨h, rfl, rfl⟩
    exact To.mv0 (BaseR.refl hob) (by simp) trivial
end Go.Pf
end
section
set_option maxRecDepth 100000
namespace Go.Pf
open Go Go.Ab Go.Pp Go.Proofs Go.Proofs.S08
attribute [local go_sem] Lxτ Lxγ gam0 gam1 Int.toNat_natCast tau3 tau4 tau41 tau60 tau64 eI eB eS e_Ins e_Block e_Func e_Prog e_kind_state eL_Intu64
set_option maxHeartbeats 1000000 in
theorem kind_Check_1_ok (γ : GT) (ob : OT) {a0 : kind_state} {v0_0 : V} {v0_1 : V} {a1 : Int} (hv0_0 : rdK (getO ob) 1 v0_0 = some (List.map (eI .u64) a0.set)) (hv0_1 : rdK (getO ob) 1 v0_1 = some (List.map (eI .u64) a0.fresh)) {r : Bool} (h : kind_Check_1 a0 a1 = some r) :
  Valid (Lx γ) 31 [V.agg [v0_0, v0_1], vint .i64 a1] ob (vbool r) ob := by
 refine valid_X (lx_ok γ) (fn := Tryd.f31) (rs := [.tmp 4]) Tryd.func31 (by kernel_rfl) rfl rfl Tryd.ntmps31 rfl (by simp) fun hb hob => ?_
 have hq := And.intro (rd4 hv0_0) (rd4 hv0_1)
 rw [kind_Check_1] at h
 refine X_sr (lx_ok γ) ?_
 simp -implicitDefEqProofs only [go_sem, seval, hq]
 refine X_sr (lx_ok γ) ?_
 obtain ⟨x1, f1, h⟩ := bindE h
 simp -implicitDefEqProofs only [go_sem, seval, hq]
 refine callV_eq (bitset_Has_ok γ _ (by first | exact rdK_app hv0_0 | exact hv0_0) f1) rfl rfl ?_
 simp -implicitDefEqProofs only [go_sem, seval, hq]
 obtain rfl := sI h
 refine X_ret ?_
 simp -implicitDefEqProofs only [go_sem, seval, hq]
 exact Rt.mv0 (BaseR.refl hob) (by simp) (vS)
end Go.Pf
end
section
set_option maxRecDepth 100000
namespace Go.Pf
open Go Go.Ab Go.Pp Go.Proofs Go.Proofs.S08
attribute [local go_sem] Lxτ Lxγ gam0 gam1 Int.toNat_natCast tau3 tau4 tau25 tau27 tau33 tau35 tau36 tau38 tau41 tau60 tau64 eI eB eS e_Ins e_Block e_Func e_Prog e_kind_state eL_Intu64
set_option maxHeartbeats 1000000 in
theorem kind_Check_2_ok (γ : GT) (ob : OT) {a0 : kind_state} {v0_0 : V} {v0_1 : V} {a1 : Int} {o2 : Nat} {a2 : Func} (hv0_0 : rdK (getO ob) 1 v0_0 = some (List.map (eI .u64) a0.set)) (hv0_1 : rdK (getO ob) 1 v0_1 = some (List.map (eI .u64) a0.fresh)) (hx2 : getO ob o2 = some (O.box [V.tr (.sl 1 false (List.map (eI .i64) a2.Kinds)), V.tr (.sl 1 false (List.map (eI .i64) a2.Base)), vint .i64 a2.Params, vint .i64 a2.Result, V.tr (.sl 1 false (List.map e_Block a2.Blocks))])) {r : Bool} (h : kind_Check_2 a0 a1 a2 = some r) :
  Valid (Lx γ) 33 [V.agg [v0_0, v0_1], vint .i64 a1, V.ref o2 0] ob (vbool r) ob := by
 refine valid_X (lx_ok γ) (fn := Tryd.f33) (rs := [.tmp 5]) Tryd.func33 (by kernel_rfl) rfl rfl Tryd.ntmps33 rfl (by simp) fun hb hob => ?_
 have hq := And.intro (rd4 hv0_0) (rd4 hv0_1)
 have hoa2 := getO_lt hx2
 rw [kind_Check_2] at h
 refine X_sr (lx_ok γ) ?_
 simp -implicitDefEqProofs only [go_sem, seval, hq, hx2, getO_ext hx2]
 refine X_sr (lx_ok γ) ?_
 obtain ⟨x1, f1, h⟩ := bindE h
 obtain ⟨f2, f3, f4⟩ := ixL_some f1
 try simp only [Int.toNat_natCast, Int.reduceToNat] at f4
 cases f5 : (x1 == 2)
 ·rw [if_neg (nF f5)] at h
  simp -implicitDefEqProofs only [go_sem, seval, f5, hq, hx2, getO_ext hx2, f2, f3, f4]
  obtain rfl := sI h
  refine X_ret ?_
  simp -implicitDefEqProofs only [go_sem, seval, f5, hq, hx2, getO_ext hx2, f2, f3, f4]
  exact Rt.mv0 (BaseR.refl hob) (by simp) (vS)
 ·rw [if_pos f5] at h
  obtain ⟨x2, f6, h⟩ := bindE h
  simp -implicitDefEqProofs only [go_sem, seval, f5, hq, hx2, getO_ext hx2, f2, f3, f4]
  refine callV_eq (bitset_Has_ok γ _ (by first | exact rdK_app hv0_1 | exact hv0_1) f6) rfl rfl ?_
  simp -implicitDefEqProofs only [go_sem, seval, f5, hq, hx2, getO_ext hx2, f2, f3, f4]
  obtain rfl := sI h
  refine X_ret ?_
  simp -implicitDefEqProofs only [go_sem, seval, f5, hq, hx2, getO_ext hx2, f2, f3, f4]
  exact Rt.mv0 (BaseR.refl hob) (by simp) (vS)
end Go.Pf
end
section
set_option maxRecDepth 100000
namespace Go.Pf
open Go Go.Ab Go.Pp Go.Proofs Go.Proofs.S08
attribute [local go_sem] Lxτ Lxγ gam0 gam1 Int.toNat_natCast tau3 tau4 tau22 tau24 tau25 tau27 tau30 tau33 tau35 tau36 tau38 tau61 eI eB eS e_Ins e_Block e_Func e_Prog e_kind_state eL_Intu64
set_option maxHeartbeats 1000000 in
theorem kind_Check_ok (γ : GT) (ob : OT) {a0 : Prog} {r : Int} (h : kind_Check a0 = some r) :
  Valid (Lx γ) 12 [V.agg [V.tr (.sl 5 false (List.map e_Func a0.Funcs))]] ob (vint .i64 r) ob := by
 refine valid_X (lx_ok γ) (fn := Tryd.f12) (rs := [.tmp 2]) Tryd.func12 (by kernel_rfl) rfl rfl Tryd.ntmps12 rfl (by simp) fun hb hob => ?_
 rw [kind_Check] at h
 refine X_sr (lx_ok γ) ?_
 simp -implicitDefEqProofs only [go_sem, seval]
 refine X_seq ?_
 refine X_block ?_
 refine X_sr (lx_ok γ) ?_
 obtain ⟨x1, f1, h⟩ := bindE h
 simp -implicitDefEqProofs only [go_sem, seval]
 refine callV_eq (shape_Check_ok γ _  f1) rfl rfl ?_
 simp -implicitDefEqProofs only [go_sem, seval]
 cases f2 : (x1 != 0)
 ·rw [if_neg (nF f2)] at h
  refine X_cond (lx_ok γ) ?_
  simp -implicitDefEqProofs only [go_sem, seval, f2]
  refine X_sr (lx_ok γ) ?_
  obtain ⟨x2, f3, h⟩ := bindE h
  simp -implicitDefEqProofs only [go_sem, seval, f2]
  refine callV_eq (kind_fit_ok γ _ (by simp -implicitDefEqProofs only [go_sem, seval, f2]; try rfl) f3) rfl rfl ?_
  simp -implicitDefEqProofs only [go_sem, seval, f2]
  cases f4 : x2
  ·rw [if_neg (nF f4)] at h
   refine X_cond (lx_ok γ) ?_
   simp -implicitDefEqProofs only [go_sem, seval, f2, f4]
   refine X_sr (lx_ok γ) ?_
   simp -implicitDefEqProofs only [go_sem, seval, f2, f4]
   obtain rfl := sI h
   refine X_ret ?_
   simp -implicitDefEqProofs only [go_sem, seval, f2, f4]
   exact Rt.mv0 (BaseR.refl hob) (by simp) (vS)
  ·rw [if_pos f4] at h
   refine X_cond (lx_ok γ) ?_
   simp -implicitDefEqProofs only [go_sem, seval, f2, f4]
   refine X_skip ?_
   try simp -implicitDefEqProofs only [go_sem]
   refine X_seq ?_
   refine X_sr (lx_ok γ) ?_
   simp -implicitDefEqProofs only [go_sem, seval, f2, f4]
   refine X_jq (J := fun as1 ob1 => kind_Check.k1 a0 = some r ∧ [(1, V.ref ob.length 0)] = as1 ∧ ob ++ [some (O.box [V.tr (.sl 5 false (List.map e_Func a0.Funcs))])] = ob1) ?_ ?_
   ·rintro as1 ob1 ⟨h, rfl, rfl⟩
    rw [kind_Check.k1] at h
    simp -implicitDefEqProofs only [go_sem, seval, f2, f4]
    refine X_seq ?_
    refine X_sr (lx_ok γ) ?_
    simp -implicitDefEqProofs only [go_sem, seval, f2, f4]
    refine X_jq (J := fun as1 ob1 => kind_Check.k2 = some r ∧ [] = as1 ∧ ob = ob1) ?_ ?_
    ·rintro as1 ob1 ⟨h, rfl, rfl⟩
     rw [kind_Check.k2] at h
     simp -implicitDefEqProofs only [go_sem, seval, f2, f4]
     refine X_sr (lx_ok γ) ?_
     simp -implicitDefEqProofs only [go_sem, seval, f2, f4]
     obtain rfl := sI h
     refine X_ret ?_
     simp -implicitDefEqProofs only [go_sem, seval, f2, f4]
     exact Rt.mv1 (BaseR.refl hob) (by simp) (vS)
    ·refine X_block ?_
     obtain ⟨lr2, hl2, hk2, hr2⟩ := aft2 h
     refine X_forN hl2 (fun (i2 : Nat) (s : Unit) as1 ob1 => [(26, V.tr (.sl 5 false (List.map e_Func a0.Funcs))), (27, vint .i64 (List.length a0.Funcs : Int)), (28, vint .i64 (i2 : Int))] = as1 ∧ ob = ob1) ⟨_, _, ?_, rfl, rfl⟩ ?_ ?_
     ·exact To.mv0 (BaseR.refl hob) (by simp) (by simp only [go_sem]; exact ⟨vS, vS, VM.eqv (by simp) (by simp)⟩)
     ·rintro i2 _ o2 hi2 hw2 h ho2 as1 ob1 ⟨rfl, rfl⟩
      rw [kind_Check.b2] at h
      refine X_sr (lx_ok γ) ?_
      simp -implicitDefEqProofs only [go_sem, seval, f2, f4, hi2]
      refine X_seq ?_
      refine X_cond (lx_ok γ) ?_
      simp -implicitDefEqProofs only [go_sem, seval, f2, f4, hi2]
      refine X_skip ?_
      try simp -implicitDefEqProofs only [go_sem]
      refine X_seq ?_
      refine X_block ?_
      refine X_sr (lx_ok γ) ?_
      obtain ⟨x5, f5, h⟩ := bindE h
      obtain ⟨f6, f7⟩ := ixL_nat f5
      have f8 : (0 : Int) ≤ (i2 : Int) := Int.natCast_nonneg _
      simp -implicitDefEqProofs only [go_sem, seval, f2, f4, hi2, f6, f7, f8]
      refine X_sr (lx_ok γ) ?_
      obtain ⟨x6, f9, h⟩ := bindE h
      simp -implicitDefEqProofs only [go_sem, seval, f2, f4, hi2]
      refine callV_eq (kind_asked_ok γ _ (by simp -implicitDefEqProofs only [go_sem, seval, f2, f4, hi2]; try rfl) (by simp -implicitDefEqProofs only [go_sem, seval, f2, f4, hi2]; try rfl) (by simp -implicitDefEqProofs only [go_sem, seval, f2, f4, hi2]; try rfl) (fun ob1 hp y0 y1 r hx => by obtain ⟨l, rfl⟩ := hp; exact kind_Check_2_ok γ _ (by simp -implicitDefEqProofs only [go_sem, seval, f2, f4, hi2]; try rfl) (by simp -implicitDefEqProofs only [go_sem, seval, f2, f4, hi2]; try rfl) (by simp -implicitDefEqProofs only [go_sem, seval, f2, f4, hi2]; try rfl) hx) f9) rfl rfl ?_
      simp -implicitDefEqProofs only [go_sem, seval, f2, f4, hi2]
      cases f10 : x6
      ·rw [if_neg (nF f10)] at h
       refine X_cond (lx_ok γ) ?_
       simp -implicitDefEqProofs only [go_sem, seval, f2, f4, hi2, f10]
       refine X_skip ?_
       try simp -implicitDefEqProofs only [go_sem]
       refine X_reg (lx_ok γ) ?_
       obtain rfl := sI h
       simp -implicitDefEqProofs only [go_sem, seval, f2, f4, hi2, f10]
       refine kR_in rfl ?_ ⟨rfl, rfl⟩
       exact To.mv0 (BaseR.refl hob) (by simp) (by simp only [go_sem]; exact ⟨vS, vS, VM.eqv (by rw [hw2]) (by simp)⟩)
      ·rw [if_pos f10] at h
       refine X_cond (lx_ok γ) ?_
       simp -implicitDefEqProofs only [go_sem, seval, f2, f4, hi2, f10]
       refine X_sr (lx_ok γ) ?_
       simp -implicitDefEqProofs only [go_sem, seval, f2, f4, hi2, f10]
       obtain rfl := sI h
       have h := hr2 _ (ho2 (fun _ hs => nomatch hs))
       obtain rfl := sI h
       refine X_ret ?_
       simp -implicitDefEqProofs only [go_sem, seval, f2, f4, hi2, f10]
       exact Rt.mv0 (BaseR.refl hob) (by simp) (vS)
     ·rintro i2 _ hi2 hn2 as1 ob1 ⟨rfl, rfl⟩
      refine X_sr (lx_ok γ) ?_
      simp -implicitDefEqProofs only [go_sem, seval, f2, f4, hi2]
      refine X_seq ?_
      refine X_cond (lx_ok γ) ?_
      simp -implicitDefEqProofs only [go_sem, seval, f2, f4, hi2]
      have h := hk2 _ (.inl hn2)
      refine X_exit ?_
      try simp -implicitDefEqProofs only [go_sem, ↓reduceIte, Nat.reduceEqDiff, reduceCtorEq]
      refine kJ_in ?_ ⟨h, rfl, rfl⟩
      exact To.mv1 (BaseR.refl hob) (by simp) trivial
   ·refine X_block ?_
    obtain ⟨lr1, hl1, hk1, hr1⟩ := aft2 h
    refine X_forN hl1 (fun (i1 : Nat) (s : Unit) as1 ob1 => [(1, V.ref ob.length 0), (16, V.tr (.sl 5 false (List.map e_Func a0.Funcs))), (17, vint .i64 (List.length a0.Funcs : Int)), (18, vint .i64 (i1 : Int))] = as1 ∧ ob ++ [some (O.box [V.tr (.sl 5 false (List.map e_Func a0.Funcs))])] = ob1) ⟨_, _, ?_, rfl, rfl⟩ ?_ ?_
    ·exact To.mv [(0, 0)] (BaseR.refl hob) (by simp) (by decide) (by simp only [go_sem]; exact ⟨VM.refA (j := 0) (t := 0) rfl, vS, vS, VM.eqv (by simp) (by simp)⟩) ⟨⟨_, rfl, OM.box _ _ ⟨vS, trivial⟩⟩, trivial⟩
    ·rintro i1 _ o1 hi1 hw1 h ho1 as1 ob1 ⟨rfl, rfl⟩
     rw [kind_Check.b1] at h
     refine X_sr (lx_ok γ) ?_
     simp -implicitDefEqProofs only [go_sem, seval, f2, f4, hi1]
     refine X_seq ?_
     refine X_cond (lx_ok γ) ?_
     simp -implicitDefEqProofs only [go_sem, seval, f2, f4, hi1]
     refine X_skip ?_
     try simp -implicitDefEqProofs only [go_sem]
     refine X_seq ?_
     refine X_block ?_
     refine X_sr (lx_ok γ) ?_
     obtain ⟨x7, f11, h⟩ := bindE h
     obtain ⟨f12, f13⟩ := ixL_nat f11
     have f14 : (0 : Int) ≤ (i1 : Int) := Int.natCast_nonneg _
     simp -implicitDefEqProofs only [go_sem, seval, f2, f4, hi1, f12, f13, f14]
     refine X_sr (lx_ok γ) ?_
     obtain ⟨x8, f15, h⟩ := bindE h
     simp -implicitDefEqProofs only [go_sem, seval, f2, f4, hi1]
     refine callV_eq (kind_asked_ok γ _ (by simp -implicitDefEqProofs only [go_sem, seval, f2, f4, hi1]; try rfl) (by simp -implicitDefEqProofs only [go_sem, seval, f2, f4, hi1]; try rfl) (by simp -implicitDefEqProofs only [go_sem, seval, f2, f4, hi1]; try rfl) (fun ob1 hp y0 y1 r hx => by obtain ⟨l, rfl⟩ := hp; exact kind_Check_1_ok γ _ (by simp -implicitDefEqProofs only [go_sem, seval, f2, f4, hi1]; try rfl) (by simp -implicitDefEqProofs only [go_sem, seval, f2, f4, hi1]; try rfl) hx) f15) rfl rfl ?_
     simp -implicitDefEqProofs only [go_sem, seval, f2, f4, hi1]
     cases f16 : x8
     ·rw [if_neg (nF f16)] at h
      refine X_cond (lx_ok γ) ?_
      simp -implicitDefEqProofs only [go_sem, seval, f2, f4, hi1, f16]
      refine X_skip ?_
      try simp -implicitDefEqProofs only [go_sem]
      refine X_reg (lx_ok γ) ?_
      obtain rfl := sI h
      simp -implicitDefEqProofs only [go_sem, seval, f2, f4, hi1, f16]
      refine kR_in rfl ?_ ⟨rfl, rfl⟩
      exact To.mv [(0, 0)] (BaseR.refl hob) (by simp) (by decide) (by simp only [go_sem]; exact ⟨VM.refA (j := 0) (t := 0) rfl, vS, vS, VM.eqv (by rw [hw1]) (by simp)⟩) ⟨⟨_, rfl, OM.box _ _ ⟨vS, trivial⟩⟩, trivial⟩
     ·rw [if_pos f16] at h
      refine X_cond (lx_ok γ) ?_
      simp -implicitDefEqProofs only [go_sem, seval, f2, f4, hi1, f16]
      refine X_sr (lx_ok γ) ?_
      simp -implicitDefEqProofs only [go_sem, seval, f2, f4, hi1, f16]
      obtain rfl := sI h
      have h := hr1 _ (ho1 (fun _ hs => nomatch hs))
      obtain rfl := sI h
      refine X_ret ?_
      simp -implicitDefEqProofs only [go_sem, seval, f2, f4, hi1, f16]
      exact Rt.mv0 (BaseR.refl hob) (by simp) (vS)
    ·rintro i1 _ hi1 hn1 as1 ob1 ⟨rfl, rfl⟩
     refine X_sr (lx_ok γ) ?_
     simp -implicitDefEqProofs only [go_sem, seval, f2, f4, hi1]
     refine X_seq ?_
     refine X_cond (lx_ok γ) ?_
     simp -implicitDefEqProofs only [go_sem, seval, f2, f4, hi1]
     have h := hk1 _ (.inl hn1)
     refine X_exit ?_
     try simp -implicitDefEqProofs only [go_sem, ↓reduceIte, Nat.reduceEqDiff, reduceCtorEq]
     refine kJ_in ?_ ⟨h, rfl, rfl⟩
     exact To.mv [(0, 0)] (BaseR.refl hob) (by simp) (by decide) (by simp only [go_sem]; exact VM.refA (j := 0) (t := 0) rfl) ⟨⟨_, rfl, OM.box _ _ ⟨vS, trivial⟩⟩, trivial⟩
 ·rw [if_pos f2] at h
  refine X_cond (lx_ok γ) ?_
  simp -implicitDefEqProofs only [go_sem, seval, f2]
  refine X_sr (lx_ok γ) ?_
  simp -implicitDefEqProofs only [go_sem, seval, f2]
  obtain rfl := sI h
  refine X_ret ?_
  simp -implicitDefEqProofs only [go_sem, seval, f2]
  exact Rt.mv0 (BaseR.refl hob) (by simp) (vS)
end Go.Pf
end
section
set_option maxRecDepth 100000
namespace Go.Pf
open Go Go.Ab Go.Pp Go.Proofs Go.Proofs.S08
attribute [local go_sem] Lxτ Lxγ gam0 gam1 Int.toNat_natCast tau3 tau22 tau24 tau25 tau27 tau33 tau35 tau36 tau38 eI eB eS e_Ins e_Block e_Func e_Prog e_kind_state eL_Intu64
set_option maxHeartbeats 1000000 in
theorem portolanlaw08_tiny_ok (γ : GT) (ob : OT) {a0 : Bool} {r : Prog} (h : portolanlaw08_tiny a0 = some r) :
  Valid (Lx γ) 18 [vbool a0] ob (V.agg [V.row ob.length 0 0 (List.length r.Funcs)]) (ob ++ [some (O.row 5 0 (List.map e_Func r.Funcs))]) := by
 refine valid_X (lx_ok γ) (fn := Tryd.f18) (rs := [.cell 2 24]) Tryd.func18 (by kernel_rfl) rfl rfl Tryd.ntmps18 rfl (by simp) fun hb hob => ?_
 rw [portolanlaw08_tiny] at h
 refine X_sr (lx_ok γ) ?_
 simp -implicitDefEqProofs only [go_sem, seval]
 refine X_sr (lx_ok γ) ?_
 simp -implicitDefEqProofs only [go_sem, seval]
 refine X_seq ?_
 refine X_jq (J := fun as1 ob1 => ∃ (x1 : List Ins), portolanlaw08_tiny.j1 x1 = some r ∧ [(2, V.ref ob.length 0), (3, V.row (ob.length + 1) 0 0 (List.length x1))] = as1 ∧ ob ++ [some (O.box [V.tr (.sl 0 true [])]), some (O.row 7 0 (List.map e_Ins x1))] = ob1) ?_ ?_
 ·rintro as1 ob1 ⟨x1, h, rfl, rfl⟩
  rw [portolanlaw08_tiny.j1] at h
  simp -implicitDefEqProofs only [go_sem, seval]
  refine X_sr (lx_ok γ) ?_
  obtain ⟨x2, f1, h⟩ := bindE h
  have f2 : List.length x2 * 72 ≤ 140737488355328 := by have := (appL_some f1).1; rw [(appL_some f1).2]; simpa using this
  have f3 : List.map e_Ins x1 ++ [[.lit (.int .i64 17), .lit (.int .i64 0), .lit (.int .i64 2), .lit (.int .i64 0), .lit (.int .i64 0), .lit (.int .i64 0), .sl 1 false []], [.lit (.int .i64 23), .lit (.int .i64 0), .lit (.int .i64 0), .lit (.int .i64 0), .lit (.int .i64 0), .lit (.int .i64 0), .sl 1 false []]] = List.map e_Ins x2 := by rw [(appL_some f1).2]; simp [eB, eI, eS, e_Ins]
  have f4 : List.length x1 + 2 = List.length x2 := by rw [(appL_some f1).2]; simp
  simp -implicitDefEqProofs only [go_sem, seval, f2, f3, f4]
  refine X_sr (lx_ok γ) ?_
  simp -implicitDefEqProofs only [go_sem, seval]
  obtain rfl := sI h
  refine X_ret ?_
  simp -implicitDefEqProofs only [go_sem, seval]
  exact Rt.mv [(6, 0)] (BaseR.refl hob) (by simp) (by decide) (VM.agg ⟨VM.rowL (j := 6) (t := 0) rfl (by first | rfl | omega | (simp [*]; done) | simp | simp_all), trivial⟩) ⟨⟨_, rfl, OM.row' (by first | rfl | simp_all)⟩, trivial⟩
 ·refine X_sr (lx_ok γ) ?_
  simp -implicitDefEqProofs only [go_sem, seval]
  cases f5 : a0
  ·rw [if_neg (nF f5)] at h
   refine X_cond (lx_ok γ) ?_
   simp -implicitDefEqProofs only [go_sem, seval, f5]
   refine X_skip ?_
   try simp -implicitDefEqProofs only [go_sem]
   refine kJ_in ?_ ⟨[Ins.mk 10 1 0 0 0 2 [], Ins.mk 15 2 1 0 0 0 []], h, rfl, rfl⟩
   exact To.mv [(0, 0), (1, 0)] (BaseR.refl hob) (by simp) (by decide) (by simp only [go_sem]; exact ⟨VM.refA (j := 0) (t := 0) rfl, VM.rowL (j := 1) (t := 1) rfl (by first | rfl | omega | (simp [*]; done) | simp | simp_all)⟩) ⟨⟨_, rfl, OM.box _ _ ⟨vS, trivial⟩⟩, ⟨_, rfl, OM.row' (by first | rfl | simp_all)⟩, trivial⟩
  ·rw [if_pos f5] at h
   refine X_cond (lx_ok γ) ?_
   simp -implicitDefEqProofs only [go_sem, seval, f5]
   refine X_reg (lx_ok γ) ?_
   obtain ⟨x3, f6, h⟩ := bindE h
   have f7 : List.length x3 * 72 ≤ 140737488355328 := by have := (appL_some f6).1; rw [(appL_some f6).2]; simpa using this
   have f8 : [[.lit (.int .i64 10), .lit (.int .i64 1), .lit (.int .i64 0), .lit (.int .i64 0), .lit (.int .i64 0), .lit (.int .i64 2), .sl 1 false []], [.lit (.int .i64 15), .lit (.int .i64 2), .lit (.int .i64 1), .lit (.int .i64 0), .lit (.int .i64 0), .lit (.int .i64 0), .sl 1 false []]] ++ [[.lit (.int .i64 7), .lit (.int .i64 1), .lit (.int .i64 0), .lit (.int .i64 0), .lit (.int .i64 0), .lit (.int .i64 0), .sl 1 false []]] = List.map e_Ins x3 := by rw [(appL_some f6).2]; simp [eB, eI, eS, e_Ins]
   have f9 : 3 = List.length x3 := by rw [(appL_some f6).2]; simp
   simp -implicitDefEqProofs only [go_sem, seval, f5, f7, f8]
   refine kJ_in ?_ ⟨x3, h, rfl, rfl⟩
   exact To.mv [(0, 0), (1, 1)] (BaseR.refl hob) (by simp) (by decide) (by simp only [go_sem]; exact ⟨VM.refA (j := 0) (t := 0) rfl, VM.rowL (j := 1) (t := 1) rfl (by first | rfl | omega | (simp [*]; done) | simp | simp_all)⟩) ⟨⟨_, rfl, OM.box _ _ ⟨vS, trivial⟩⟩, ⟨_, rfl, OM.row' (by first | rfl | simp_all)⟩, trivial⟩
end Go.Pf
end
