/- Each function computes what its plain one says, part 1 -/
import Derived.Test.YtkjhkbolchkkhaaDoorU1
set_option linter.all false
section
namespace Go.Pf
open Go Go.Ab Go.Pp
def e_Loc (x : Loc) : List Tr := [.lit (.int .i64 x.Kind), .lit (.int .i64 x.N)]
def e_Mins (x : Mins) : List Tr := [.lit (.int .i64 x.Op), .lit (.int .i64 x.D.Kind), .lit (.int .i64 x.D.N), .lit (.int .i64 x.A.Kind), .lit (.int .i64 x.A.N), .lit (.int .i64 x.B.Kind), .lit (.int .i64 x.B.N), .lit (.int .i64 x.C.Kind), .lit (.int .i64 x.C.N), .lit (.int .i64 x.N), .lit (.int .i64 x.M), .sl 2 false (List.map e_Loc x.Args)]
def e_Text (x : Text) : List Tr := [.sl 12 false (List.map e_Mins x.Code), .sl 1 false (List.map (eI .i64) x.Starts), .sl 1 false (List.map (eI .i64) x.Slots)]
def e_text_room (x : text_room) : List Tr := [.lit (.int .i64 x.from_), .lit (.int .i64 x.to_), .lit (.int .i64 x.slots), .lit (.int .i64 x.funcs)]
def e_text_reader (x : text_reader) : List Tr := [.sl 1 false (List.map (eI .u8) x.b), .lit (.int .i64 x.err)]
def e_portolanref19_reader (x : portolanref19_reader) : List Tr := [.sl 1 false (List.map (eI .u8) x.b), .lit (.int .i64 x.err)]
end Go.Pf
end
section
set_option maxRecDepth 100000
namespace Go.Pf
open Go Go.Ab Go.Pp Go.Proofs Go.Proofs.S19
attribute [local go_sem] Lxτ Lxγ gam0 Int.toNat_natCast tau3 tau9 tau83 eI eB eS e_Loc e_Mins e_Text e_text_room e_text_reader e_portolanref19_reader
set_option maxHeartbeats 1000000 in
theorem code_Parts_ok (γ : GT) (ob : OT) {a0 : Int} {r : ByteArray} (h : code_Parts a0 = some r) :
  Valid (Lx γ) 32 [vint .i64 a0] ob (vstr r) ob := by
 refine valid_X (lx_ok γ) (fn := Tryd.f32) (rs := [.tmp 2]) Tryd.func32 (by kernel_rfl) rfl rfl Tryd.ntmps32 rfl (by simp) fun hb hob => ?_
 rw [code_Parts] at h
 refine X_seq ?_
 refine X_reg (lx_ok γ) ?_
 simp -implicitDefEqProofs only [go_sem, seval]
 refine X_seq ?_
 refine X_seq ?_
 refine X_reg (lx_ok γ) ?_
 cases f1 : decide (a0 < 0)
 ·rw [if_neg (ne_true_of_eq_false f1)] at h
  simp -implicitDefEqProofs only [go_sem, seval, f1]
  cases f2 : decide (24 ≤ a0)
  ·rw [if_neg (ne_true_of_eq_false f2)] at h
   refine X_cond (lx_ok γ) ?_
   simp -implicitDefEqProofs only [go_sem, seval, f1, f2]
   refine X_skip ?_
   try simp -implicitDefEqProofs only [go_sem]
   refine X_seq ?_
   refine X_reg (lx_ok γ) ?_
   obtain ⟨x1, f3, h⟩ := bindE h
   obtain ⟨f4, f5, f6⟩ := ixL_some f3
   replace f5 : a0 < 24 := f5
   have f7 : Int.toNat a0 + 1 ≤ List.length partsL := by have : List.length partsL = 24 := rfl; omega
   have f8 : List.take 1 (List.drop (Int.toNat a0) partsL) = [x1] := take1_of f6
   simp -implicitDefEqProofs only [go_sem, seval, f1, f2, f4, f5, f7, f8]
   obtain rfl := Option.some.inj h
   refine X_ret ?_
   simp -implicitDefEqProofs only [go_sem, seval, f1, f2, f4, f5, f7, f8]
   exact Rt.mv1 (BaseR.refl hob) (by simp) (VM.self (by simp))
  ·rw [if_pos f2] at h
   refine X_cond (lx_ok γ) ?_
   simp -implicitDefEqProofs only [go_sem, seval, f1, f2]
   refine X_seq ?_
   refine X_reg (lx_ok γ) ?_
   simp -implicitDefEqProofs only [go_sem, seval, f1, f2]
   obtain rfl := Option.some.inj h
   refine X_ret ?_
   simp -implicitDefEqProofs only [go_sem, seval, f1, f2]
   exact Rt.mv1 (BaseR.refl hob) (by simp) (VM.self (by simp))
 ·rw [if_pos f1] at h
  simp -implicitDefEqProofs only [go_sem, seval, f1]
  refine X_condT (lx_ok γ) rfl ?_
  refine X_seq ?_
  refine X_reg (lx_ok γ) ?_
  simp -implicitDefEqProofs only [go_sem, seval, f1]
  obtain rfl := Option.some.inj h
  refine X_ret ?_
  simp -implicitDefEqProofs only [go_sem, seval, f1]
  exact Rt.mv1 (BaseR.refl hob) (by simp) (VM.self (by simp))
end Go.Pf
end
section
set_option maxRecDepth 100000
namespace Go.Pf
open Go Go.Ab Go.Pp Go.Proofs Go.Proofs.S19
attribute [local go_sem] Lxτ Lxγ gam0 Int.toNat_natCast tau3 tau9 eI eB eS e_Loc e_Mins e_Text e_text_room e_text_reader e_portolanref19_reader
set_option maxHeartbeats 1000000 in
theorem text_Parts_ok (γ : GT) (ob : OT) {a0 : Int} {r : ByteArray × Bool} (h : text_Parts a0 = some r) :
  Valid (Lx γ) 12 [vint .i64 a0] ob (V.tup [vstr r.1, vbool r.2]) ob := by
 refine valid_X (lx_ok γ) (fn := Tryd.f12) (rs := [.tmp 2, .tmp 3]) Tryd.func12 (by kernel_rfl) rfl rfl Tryd.ntmps12 rfl (by simp) fun hb hob => ?_
 rw [text_Parts] at h
 refine X_seq ?_
 refine X_reg (lx_ok γ) ?_
 simp -implicitDefEqProofs only [go_sem, seval]
 refine X_seq ?_
 refine X_seq ?_
 refine X_reg (lx_ok γ) ?_
 simp -implicitDefEqProofs only [go_sem, seval]
 refine X_block ?_
 refine X_seq ?_
 refine X_reg (lx_ok γ) ?_
 simp -implicitDefEqProofs only [go_sem, seval]
 cases f1 : (a0 == 25)
 ·rw [if_neg (ne_true_of_eq_false f1)] at h
  refine X_cond (lx_ok γ) ?_
  simp -implicitDefEqProofs only [go_sem, seval, f1]
  refine X_seq ?_
  refine X_reg (lx_ok γ) ?_
  simp -implicitDefEqProofs only [go_sem, seval, f1]
  cases f2 : (a0 == 24)
  ·rw [if_neg (ne_true_of_eq_false f2)] at h
   refine X_cond (lx_ok γ) ?_
   simp -implicitDefEqProofs only [go_sem, seval, f1, f2]
   refine X_seq ?_
   refine X_reg (lx_ok γ) ?_
   simp -implicitDefEqProofs only [go_sem, seval, f1, f2]
   cases f3 : (a0 == 17)
   ·rw [if_neg (ne_true_of_eq_false f3)] at h
    refine X_cond (lx_ok γ) ?_
    simp -implicitDefEqProofs only [go_sem, seval, f1, f2, f3]
    refine X_seq ?_
    refine X_reg (lx_ok γ) ?_
    simp -implicitDefEqProofs only [go_sem, seval, f1, f2, f3]
    cases f4 : (a0 == 18)
    ·rw [if_neg (ne_true_of_eq_false f4)] at h
     refine X_cond (lx_ok γ) ?_
     simp -implicitDefEqProofs only [go_sem, seval, f1, f2, f3, f4]
     refine X_skip ?_
     try simp -implicitDefEqProofs only [go_sem]
     refine X_seq ?_
     refine X_reg (lx_ok γ) ?_
     obtain ⟨x1, f5, h⟩ := bindE h
     simp -implicitDefEqProofs only [go_sem, seval, f1, f2, f3, f4]
     refine callV_eq (code_Parts_ok γ _  f5) rfl rfl ?_
     simp -implicitDefEqProofs only [go_sem, seval, f1, f2, f3, f4]
     refine X_seq ?_
     refine X_reg (lx_ok γ) ?_
     simp -implicitDefEqProofs only [go_sem, seval, f1, f2, f3, f4]
     obtain rfl := Option.some.inj h
     refine X_ret ?_
     simp -implicitDefEqProofs only [go_sem, seval, f1, f2, f3, f4]
     exact Rt.mv1 (BaseR.refl hob) (by simp) (VM.tup ⟨VM.self (by simp), VM.self (by simp), trivial⟩)
    ·rw [if_pos f4] at h
     refine X_cond (lx_ok γ) ?_
     simp -implicitDefEqProofs only [go_sem, seval, f1, f2, f3, f4]
     refine X_seq ?_
     refine X_reg (lx_ok γ) ?_
     simp -implicitDefEqProofs only [go_sem, seval, f1, f2, f3, f4]
     obtain rfl := Option.some.inj h
     refine X_ret ?_
     simp -implicitDefEqProofs only [go_sem, seval, f1, f2, f3, f4]
     exact Rt.mv1 (BaseR.refl hob) (by simp) (VM.tup ⟨VM.self (by simp), VM.self (by simp), trivial⟩)
   ·rw [if_pos f3] at h
    refine X_cond (lx_ok γ) ?_
    simp -implicitDefEqProofs only [go_sem, seval, f1, f2, f3]
    refine X_seq ?_
    refine X_reg (lx_ok γ) ?_
    simp -implicitDefEqProofs only [go_sem, seval, f1, f2, f3]
    obtain rfl := Option.some.inj h
    refine X_ret ?_
    simp -implicitDefEqProofs only [go_sem, seval, f1, f2, f3]
    exact Rt.mv1 (BaseR.refl hob) (by simp) (VM.tup ⟨VM.self (by simp), VM.self (by simp), trivial⟩)
  ·rw [if_pos f2] at h
   refine X_cond (lx_ok γ) ?_
   simp -implicitDefEqProofs only [go_sem, seval, f1, f2]
   refine X_seq ?_
   refine X_reg (lx_ok γ) ?_
   simp -implicitDefEqProofs only [go_sem, seval, f1, f2]
   obtain rfl := Option.some.inj h
   refine X_ret ?_
   simp -implicitDefEqProofs only [go_sem, seval, f1, f2]
   exact Rt.mv1 (BaseR.refl hob) (by simp) (VM.tup ⟨VM.self (by simp), VM.self (by simp), trivial⟩)
 ·rw [if_pos f1] at h
  refine X_cond (lx_ok γ) ?_
  simp -implicitDefEqProofs only [go_sem, seval, f1]
  refine X_seq ?_
  refine X_reg (lx_ok γ) ?_
  simp -implicitDefEqProofs only [go_sem, seval, f1]
  obtain rfl := Option.some.inj h
  refine X_ret ?_
  simp -implicitDefEqProofs only [go_sem, seval, f1]
  exact Rt.mv1 (BaseR.refl hob) (by simp) (VM.tup ⟨VM.self (by simp), VM.self (by simp), trivial⟩)
end Go.Pf
end
section
set_option maxRecDepth 100000
namespace Go.Pf
open Go Go.Ab Go.Pp Go.Proofs Go.Proofs.S19
attribute [local go_sem] Lxτ Lxγ gam0 Int.toNat_natCast tau3 tau23 eI eB eS e_Loc e_Mins e_Text e_text_room e_text_reader e_portolanref19_reader
theorem slices_Clone_int_ok (γ : GT) (ob : OT) {a0 : List Int} {v0 : V} (hv0 : rdK (getO ob) 1 v0 = some (List.map (eI .i64) a0)) {r : List Int} (h : slices_Clone_int a0 = some r) :
  Valid (Lx γ) 47 [v0] ob (V.row ob.length 0 0 (List.length r)) (ob ++ [some (O.row 1 0 (List.map (eI .i64) r))]) := by
 rw [slices_Clone_int] at h
 have hn : List.length a0 * 8 ≤ 140737488355328 := by simpa using (appL_some h).1
 obtain rfl : r = a0 := by simpa using (appL_some h).2
 refine valid_W (lx_ok γ) (fn := Tryd.f47) (rs := [.tmp 2]) Tryd.func47 (by kernel_rfl) rfl rfl Tryd.ntmps47 (Nat.le_of_ble_eq_true rfl) (by simp) fun hb hob => ?_
 obtain ⟨k', hs⟩ := rdK_rdS hv0
 simp -implicitDefEqProofs only [go_sem, seval, hs, rdK_app hv0, hv0, hn]
 refine ⟨fun h0 => ?_, ?_⟩
 ·have : r = [] := by simpa using h0
  subst this
  exact Rt.nilRow
 ·exact Rt.row (j := 0) hob rfl rfl
end Go.Pf
end
section
set_option maxRecDepth 100000
namespace Go.Pf
open Go Go.Ab Go.Pp Go.Proofs Go.Proofs.S19
attribute [local go_sem] Lxτ Lxγ gam0 Int.toNat_natCast tau3 tau22 tau23 tau25 tau46 tau47 tau49 eI eB eS e_Loc e_Mins e_Text e_text_room e_text_reader e_portolanref19_reader
set_option maxHeartbeats 1000000 in
theorem text_ends_ok (γ : GT) (ob : OT) {a0 : Text} {r : List Int} (h : text_ends a0 = some r) :
  Valid (Lx γ) 23 [V.agg [V.tr (.sl 12 false (List.map e_Mins a0.Code)), V.tr (.sl 1 false (List.map (eI .i64) a0.Starts)), V.tr (.sl 1 false (List.map (eI .i64) a0.Slots))]] ob (V.row ob.length 0 0 (List.length r)) (ob ++ [some (O.row 1 0 (List.map (eI .i64) r))]) := by
 refine valid_X (lx_ok γ) (fn := Tryd.f23) (rs := [.tmp 2]) Tryd.func23 (by kernel_rfl) rfl rfl Tryd.ntmps23 rfl (by simp) fun hb hob => ?_
 rw [text_ends] at h
 refine X_seq ?_
 refine X_reg (lx_ok γ) ?_
 simp -implicitDefEqProofs only [go_sem, seval]
 refine X_seq ?_
 refine X_drawn (lx_ok γ) [[], [0], [0, 1], [0, 1, 2], [], [4], [4, 5], [4, 5, 6], [0, 1, 2, 3, 4, 5, 6, 7], [0, 1, 2, 3, 4, 5, 6, 7, 8]] (fun i => match i with | 3 => true | 8 => true | _ => false) (by kernel_rfl) ?_
 obtain ⟨x1, f1, h⟩ := bindE h
 obtain ⟨f2, f3, f4, f5⟩ := tailL_some2 f1
 try simp only [Int.toNat_natCast, Int.reduceToNat] at f3 f4 f5
 obtain ⟨x2, f6, h⟩ := bindE h
 try simp -implicitDefEqProofs only [go_sem, seval, f2, f3, f4, f5, cmpr, List.getD_cons_zero, List.getD_cons_succ, List.contains_cons, List.contains_nil, Nat.reduceBEq, Bool.false_or, Bool.or_false, Bool.true_or, Bool.or_true, beq_self_eq_true]
 refine callV_eq (slices_Clone_int_ok γ _ (by simp -implicitDefEqProofs only [go_sem, seval, f2, f3, f4, f5]; try rfl) f6) rfl rfl ?_
 obtain ⟨x3, f7, h⟩ := bindE h
 have f8 : List.length x3 * 8 ≤ 140737488355328 := by have := (appL_some f7).1; rw [(appL_some f7).2]; simpa using this
 have f9 : List.map (eI .i64) x2 ++ [[.lit (.int .i64 (List.length a0.Code : Int))]] = List.map (eI .i64) x3 := by rw [(appL_some f7).2]; simp [eB, eI, eS]
 have f10 : List.length x2 + 1 = List.length x3 := by rw [(appL_some f7).2]; simp
 try simp -implicitDefEqProofs only [go_sem, seval, f2, f3, f4, f5, f8, f9, f10, cmpr, List.getD_cons_zero, List.getD_cons_succ, List.contains_cons, List.contains_nil, Nat.reduceBEq, Bool.false_or, Bool.or_false, Bool.true_or, Bool.or_true, beq_self_eq_true]
 obtain rfl := Option.some.inj h
 refine X_ret ?_
 simp -implicitDefEqProofs only [go_sem, seval, f2, f3, f4, f5, f8, f9, f10]
 exact Rt.mv [(1, 1)] (BaseR.refl hob) (by simp) (by decide) (VM.rowL (j := 1) (t := 0) rfl (by first | rfl | simp | simp_all | omega)) ⟨⟨_, rfl, OM.row' (by first | rfl | simp_all)⟩, trivial⟩
end Go.Pf
end
section
set_option maxRecDepth 100000
namespace Go.Pf
open Go Go.Ab Go.Pp Go.Proofs Go.Proofs.S19
attribute [local go_sem] Lxτ Lxγ gam0 Int.toNat_natCast tau3 eI eB eS e_Loc e_Mins e_Text e_text_room e_text_reader e_portolanref19_reader
set_option maxHeartbeats 1000000 in
theorem text_within_ok (γ : GT) (ob : OT) {a0 : Int} {a1 : Int} {a2 : Int} {r : Bool} (h : text_within a0 a1 a2 = some r) :
  Valid (Lx γ) 34 [vint .i64 a0, vint .i64 a1, vint .i64 a2] ob (vbool r) ob := by
 refine valid_X (lx_ok γ) (fn := Tryd.f34) (rs := [.tmp 6]) Tryd.func34 (by kernel_rfl) rfl rfl Tryd.ntmps34 rfl (by simp) fun hb hob => ?_
 rw [text_within] at h
 refine X_seq ?_
 refine X_reg (lx_ok γ) ?_
 simp -implicitDefEqProofs only [go_sem, seval]
 refine X_seq ?_
 refine X_reg (lx_ok γ) ?_
 cases f1 : decide (a1 ≤ a0)
 ·rw [if_neg (ne_true_of_eq_false f1)] at h
  simp -implicitDefEqProofs only [go_sem, seval, f1]
  obtain rfl := Option.some.inj h
  refine X_ret ?_
  simp -implicitDefEqProofs only [go_sem, seval, f1]
  exact Rt.mv1 (BaseR.refl hob) (by simp) (VM.self (by simp))
 ·rw [if_pos f1] at h
  simp -implicitDefEqProofs only [go_sem, seval, f1]
  obtain rfl := Option.some.inj h
  refine X_ret ?_
  simp -implicitDefEqProofs only [go_sem, seval, f1]
  exact Rt.mv1 (BaseR.refl hob) (by simp) (VM.self (by simp))
end Go.Pf
end
section
set_option maxRecDepth 100000
namespace Go.Pf
open Go Go.Ab Go.Pp Go.Proofs Go.Proofs.S19
attribute [local go_sem] Lxτ Lxγ gam0 Int.toNat_natCast tau3 tau22 tau46 tau47 tau49 eI eB eS e_Loc e_Mins e_Text e_text_room e_text_reader e_portolanref19_reader
set_option maxHeartbeats 1000000 in
theorem slices_IndexFunc_Mins_ok (γ : GT) (ob : OT) {a0 : List Mins} {v0 : V} {a1 : Mins → Option (Bool)} {w1 : V} (hv0 : rdK (getO ob) 12 v0 = some (List.map e_Mins a0)) (hf1 : ∀ (ob1 : OT), ob <+: ob1 → ∀ (y0 : Mins) (r : Bool), a1 y0 = some r → FnV (Lx γ) w1 [V.agg [vint .i64 y0.Op, vint .i64 y0.D.Kind, vint .i64 y0.D.N, vint .i64 y0.A.Kind, vint .i64 y0.A.N, vint .i64 y0.B.Kind, vint .i64 y0.B.N, vint .i64 y0.C.Kind, vint .i64 y0.C.N, vint .i64 y0.N, vint .i64 y0.M, V.tr (.sl 2 false (List.map e_Loc y0.Args))]] ob1 (vbool r) ob1) {r : Int} (h : slices_IndexFunc_Mins a0 a1 = some r) :
  Valid (Lx γ) 51 [v0, w1] ob (vint .i64 r) ob := by
 refine valid_X (lx_ok γ) (fn := Tryd.f51) (rs := [.tmp 4]) Tryd.func51 (by kernel_rfl) rfl rfl Tryd.ntmps51 rfl (by simp) fun hb hob => ?_
 have hq := rd4 hv0
 rw [slices_IndexFunc_Mins] at h
 refine X_seq ?_
 refine X_reg (lx_ok γ) ?_
 simp -implicitDefEqProofs only [go_sem, seval, hq]
 refine X_seq ?_
 refine X_seq ?_
 refine X_reg (lx_ok γ) ?_
 simp -implicitDefEqProofs only [go_sem, seval, hq]
 refine X_jq (J := fun as1 ob1 => slices_IndexFunc_Mins.k1 = some r ∧ [] = as1 ∧ ob = ob1) ?_ ?_
 ·rintro as1 ob1 ⟨h, rfl, rfl⟩
  rw [slices_IndexFunc_Mins.k1] at h
  simp -implicitDefEqProofs only [go_sem, seval, hq]
  refine X_seq ?_
  refine X_reg (lx_ok γ) ?_
  simp -implicitDefEqProofs only [go_sem, seval, hq]
  obtain rfl := Option.some.inj h
  refine X_ret ?_
  simp -implicitDefEqProofs only [go_sem, seval, hq]
  exact Rt.mv1 (BaseR.refl hob) (by simp) (VM.self (by simp))
 ·refine X_block ?_
  obtain ⟨lr1, hl1, hk1, hr1⟩ := aft2 h
  refine X_forN hl1 (fun (i1 : Nat) (s : Unit) as1 ob1 => [(0, v0), (1, w1), (7, vint .i64 (List.length a0 : Int)), (8, vint .i64 (i1 : Int))] = as1 ∧ ob = ob1) ⟨_, _, ?_, rfl, rfl⟩ ?_ ?_
  ·exact To.mv1 (BaseR.refl hob) (by simp) (by simp only [go_sem]; exact ⟨VM.self (by simpa using Bd.of_rdK hv0), VM.self (by simpa using hb w1 (by simp)), VM.self (by simp), VM.eqv (by simp) (by simp)⟩)
  ·rintro i1 _ o1 hi1 hw1 h ho1 as1 ob1 ⟨rfl, rfl⟩
   rw [slices_IndexFunc_Mins.b1] at h
   refine X_seq ?_
   refine X_reg (lx_ok γ) ?_
   simp -implicitDefEqProofs only [go_sem, seval, hi1, hq]
   refine X_seq ?_
   refine X_cond (lx_ok γ) ?_
   simp -implicitDefEqProofs only [go_sem, seval, hi1, hq]
   refine X_skip ?_
   try simp -implicitDefEqProofs only [go_sem]
   refine X_seq ?_
   refine X_block ?_
   refine X_seq ?_
   refine X_reg (lx_ok γ) ?_
   simp -implicitDefEqProofs only [go_sem, seval, hi1, hq]
   refine X_seq ?_
   refine X_reg (lx_ok γ) ?_
   obtain ⟨x2, f1, h⟩ := bindE h
   obtain ⟨f2, f3⟩ := ixL_nat f1
   have f4 : (0 : Int) ≤ (i1 : Int) := Int.natCast_nonneg _
   obtain ⟨x3, f5, h⟩ := bindE h
   simp -implicitDefEqProofs only [go_sem, seval, hi1, hq, f2, f3, f4]
   refine callV_fn (hf1 _ List.prefix_rfl _ _ f5) rfl rfl ?_
   simp -implicitDefEqProofs only [go_sem, seval, hi1, hq, f2, f3, f4]
   cases f6 : x3
   ·rw [if_neg (ne_true_of_eq_false f6)] at h
    refine X_cond (lx_ok γ) ?_
    simp -implicitDefEqProofs only [go_sem, seval, hi1, f6, hq, f2, f3, f4]
    refine X_skip ?_
    try simp -implicitDefEqProofs only [go_sem]
    refine X_reg (lx_ok γ) ?_
    obtain rfl := Option.some.inj h
    simp -implicitDefEqProofs only [go_sem, seval, hi1, f6, hq]
    refine kR_in rfl ?_ ⟨rfl, rfl⟩
    exact To.mv1 (BaseR.refl hob) (by simp) (by simp only [go_sem]; exact ⟨VM.self (by simpa using Bd.of_rdK hv0), VM.self (by simpa using hb w1 (by simp)), VM.self (by simp), VM.eqv (by rw [hw1]) (by simp)⟩)
   ·rw [if_pos f6] at h
    refine X_cond (lx_ok γ) ?_
    simp -implicitDefEqProofs only [go_sem, seval, hi1, f6, hq, f2, f3, f4]
    refine X_seq ?_
    refine X_reg (lx_ok γ) ?_
    simp -implicitDefEqProofs only [go_sem, seval, hi1, f6, hq]
    obtain rfl := Option.some.inj h
    have h := hr1 _ (ho1 (fun _ hs => nomatch hs))
    obtain rfl := Option.some.inj h
    refine X_ret ?_
    simp -implicitDefEqProofs only [go_sem, seval, hi1, f6, hq]
    exact Rt.mv1 (BaseR.refl hob) (by simp) (VM.self (by simp))
  ·rintro i1 _ hi1 hn1 as1 ob1 ⟨rfl, rfl⟩
   refine X_seq ?_
   refine X_reg (lx_ok γ) ?_
   simp -implicitDefEqProofs only [go_sem, seval, hi1, hq]
   refine X_seq ?_
   refine X_cond (lx_ok γ) ?_
   simp -implicitDefEqProofs only [go_sem, seval, hi1, hq]
   have h := hk1 _ (.inl hn1)
   refine X_exit ?_
   try simp -implicitDefEqProofs only [go_sem, ↓reduceIte, Nat.reduceEqDiff, reduceCtorEq]
   refine kJ_in ?_ ⟨h, rfl, rfl⟩
   exact To.mv1 (BaseR.refl hob) (by simp) trivial
end Go.Pf
end
section
set_option maxRecDepth 100000
namespace Go.Pf
open Go Go.Ab Go.Pp Go.Proofs Go.Proofs.S19
attribute [local go_sem] Lxτ Lxγ gam0 Int.toNat_natCast tau3 tau22 tau46 tau47 tau49 tau63 eI eB eS e_Loc e_Mins e_Text e_text_room e_text_reader e_portolanref19_reader
set_option maxHeartbeats 1000000 in
theorem slices_ContainsFunc_Mins_ok (γ : GT) (ob : OT) {a0 : List Mins} {v0 : V} {a1 : Mins → Option (Bool)} {w1 : V} (hv0 : rdK (getO ob) 12 v0 = some (List.map e_Mins a0)) (hf1 : ∀ (ob1 : OT), ob <+: ob1 → ∀ (y0 : Mins) (r : Bool), a1 y0 = some r → FnV (Lx γ) w1 [V.agg [vint .i64 y0.Op, vint .i64 y0.D.Kind, vint .i64 y0.D.N, vint .i64 y0.A.Kind, vint .i64 y0.A.N, vint .i64 y0.B.Kind, vint .i64 y0.B.N, vint .i64 y0.C.Kind, vint .i64 y0.C.N, vint .i64 y0.N, vint .i64 y0.M, V.tr (.sl 2 false (List.map e_Loc y0.Args))]] ob1 (vbool r) ob1) {r : Bool} (h : slices_ContainsFunc_Mins a0 a1 = some r) :
  Valid (Lx γ) 35 [v0, w1] ob (vbool r) ob := by
 refine valid_X (lx_ok γ) (fn := Tryd.f35) (rs := [.tmp 4]) Tryd.func35 (by kernel_rfl) rfl rfl Tryd.ntmps35 rfl (by simp) fun hb hob => ?_
 have hq := rd4 hv0
 rw [slices_ContainsFunc_Mins] at h
 refine X_seq ?_
 refine X_reg (lx_ok γ) ?_
 simp -implicitDefEqProofs only [go_sem, seval, hq]
 refine X_seq ?_
 refine X_reg (lx_ok γ) ?_
 obtain ⟨x1, f1, h⟩ := bindE h
 simp -implicitDefEqProofs only [go_sem, seval, hq]
 refine callV_eq (slices_IndexFunc_Mins_ok γ _ (by first | exact rdK_app hv0 | exact hv0) hf1 f1) rfl rfl ?_
 simp -implicitDefEqProofs only [go_sem, seval, hq]
 obtain rfl := Option.some.inj h
 refine X_ret ?_
 simp -implicitDefEqProofs only [go_sem, seval, hq]
 exact Rt.mv1 (BaseR.refl hob) (by simp) (VM.self (by simp))
end Go.Pf
end
section
set_option maxRecDepth 100000
namespace Go.Pf
open Go Go.Ab Go.Pp Go.Proofs Go.Proofs.S19
attribute [local go_sem] Lxτ Lxγ gam0 Int.toNat_natCast tau3 tau5 tau46 tau47 tau49 eI eB eS e_Loc e_Mins e_Text e_text_room e_text_reader e_portolanref19_reader
set_option maxHeartbeats 1000000 in
theorem text_loc_ok (γ : GT) (ob : OT) {o0 : Nat} {a0 : Mins} {u0_11 : V} {a1 : Int} (hx0 : getO ob o0 = some (O.box [vint .i64 a0.Op, vint .i64 a0.D.Kind, vint .i64 a0.D.N, vint .i64 a0.A.Kind, vint .i64 a0.A.N, vint .i64 a0.B.Kind, vint .i64 a0.B.N, vint .i64 a0.C.Kind, vint .i64 a0.C.N, vint .i64 a0.N, vint .i64 a0.M, u0_11])) {r : Nat} (h : text_loc a0 a1 = some r) :
  Valid (Lx γ) 26 [V.ref o0 0, vint .u8 a1] ob (V.ref o0 r) ob := by
 refine valid_X (lx_ok γ) (fn := Tryd.f26) (rs := [.tmp 4]) Tryd.func26 (by kernel_rfl) rfl rfl Tryd.ntmps26 rfl (by simp) fun hb hob => ?_
 have hoa0 := getO_lt hx0
 have bu0_11 : Bd ob.length u0_11 := hob _ _ hx0 u0_11 (by simp)
 rw [text_loc] at h
 refine X_seq ?_
 refine X_reg (lx_ok γ) ?_
 simp -implicitDefEqProofs only [go_sem, seval, hx0, getO_ext hx0]
 refine X_seq ?_
 refine X_seq ?_
 refine X_reg (lx_ok γ) ?_
 simp -implicitDefEqProofs only [go_sem, seval, hx0, getO_ext hx0]
 refine X_block ?_
 refine X_seq ?_
 refine X_reg (lx_ok γ) ?_
 simp -implicitDefEqProofs only [go_sem, seval, hx0, getO_ext hx0]
 cases f1 : (a1 == 68)
 ·rw [if_neg (ne_true_of_eq_false f1)] at h
  refine X_cond (lx_ok γ) ?_
  simp -implicitDefEqProofs only [go_sem, seval, f1, hx0, getO_ext hx0]
  refine X_seq ?_
  refine X_reg (lx_ok γ) ?_
  simp -implicitDefEqProofs only [go_sem, seval, f1, hx0, getO_ext hx0]
  cases f2 : (a1 == 65)
  ·rw [if_neg (ne_true_of_eq_false f2)] at h
   refine X_cond (lx_ok γ) ?_
   simp -implicitDefEqProofs only [go_sem, seval, f1, f2, hx0, getO_ext hx0]
   refine X_seq ?_
   refine X_reg (lx_ok γ) ?_
   simp -implicitDefEqProofs only [go_sem, seval, f1, f2, hx0, getO_ext hx0]
   cases f3 : (a1 == 66)
   ·rw [if_neg (ne_true_of_eq_false f3)] at h
    refine X_cond (lx_ok γ) ?_
    simp -implicitDefEqProofs only [go_sem, seval, f1, f2, f3, hx0, getO_ext hx0]
    refine X_skip ?_
    try simp -implicitDefEqProofs only [go_sem]
    refine X_seq ?_
    refine X_reg (lx_ok γ) ?_
    simp -implicitDefEqProofs only [go_sem, seval, f1, f2, f3, hx0, getO_ext hx0]
    obtain rfl := Option.some.inj h
    refine X_ret ?_
    simp -implicitDefEqProofs only [go_sem, seval, f1, f2, f3, hx0, getO_ext hx0]
    exact Rt.mv1 (BaseR.refl hob) (by simp) (VM.self (by simp [*]))
   ·rw [if_pos f3] at h
    refine X_cond (lx_ok γ) ?_
    simp -implicitDefEqProofs only [go_sem, seval, f1, f2, f3, hx0, getO_ext hx0]
    refine X_seq ?_
    refine X_reg (lx_ok γ) ?_
    simp -implicitDefEqProofs only [go_sem, seval, f1, f2, f3, hx0, getO_ext hx0]
    obtain rfl := Option.some.inj h
    refine X_ret ?_
    simp -implicitDefEqProofs only [go_sem, seval, f1, f2, f3, hx0, getO_ext hx0]
    exact Rt.mv1 (BaseR.refl hob) (by simp) (VM.self (by simp [*]))
  ·rw [if_pos f2] at h
   refine X_cond (lx_ok γ) ?_
   simp -implicitDefEqProofs only [go_sem, seval, f1, f2, hx0, getO_ext hx0]
   refine X_seq ?_
   refine X_reg (lx_ok γ) ?_
   simp -implicitDefEqProofs only [go_sem, seval, f1, f2, hx0, getO_ext hx0]
   obtain rfl := Option.some.inj h
   refine X_ret ?_
   simp -implicitDefEqProofs only [go_sem, seval, f1, f2, hx0, getO_ext hx0]
   exact Rt.mv1 (BaseR.refl hob) (by simp) (VM.self (by simp [*]))
 ·rw [if_pos f1] at h
  refine X_cond (lx_ok γ) ?_
  simp -implicitDefEqProofs only [go_sem, seval, f1, hx0, getO_ext hx0]
  refine X_seq ?_
  refine X_reg (lx_ok γ) ?_
  simp -implicitDefEqProofs only [go_sem, seval, f1, hx0, getO_ext hx0]
  obtain rfl := Option.some.inj h
  refine X_ret ?_
  simp -implicitDefEqProofs only [go_sem, seval, f1, hx0, getO_ext hx0]
  exact Rt.mv1 (BaseR.refl hob) (by simp) (VM.self (by simp [*]))
end Go.Pf
end
section
set_option maxRecDepth 100000
namespace Go.Pf
open Go Go.Ab Go.Pp Go.Proofs Go.Proofs.S19
attribute [local go_sem] Lxτ Lxγ gam0 Int.toNat_natCast tau3 tau46 tau47 eI eB eS e_Loc e_Mins e_Text e_text_room e_text_reader e_portolanref19_reader
set_option maxHeartbeats 1000000 in
theorem slices_IndexFunc_Loc_ok (γ : GT) (ob : OT) {a0 : List Loc} {v0 : V} {a1 : Loc → Option (Bool)} {w1 : V} (hv0 : rdK (getO ob) 2 v0 = some (List.map e_Loc a0)) (hf1 : ∀ (ob1 : OT), ob <+: ob1 → ∀ (y0 : Loc) (r : Bool), a1 y0 = some r → FnV (Lx γ) w1 [V.agg [vint .i64 y0.Kind, vint .i64 y0.N]] ob1 (vbool r) ob1) {r : Int} (h : slices_IndexFunc_Loc a0 a1 = some r) :
  Valid (Lx γ) 74 [v0, w1] ob (vint .i64 r) ob := by
 refine valid_X (lx_ok γ) (fn := Tryd.f74) (rs := [.tmp 4]) Tryd.func74 (by kernel_rfl) rfl rfl Tryd.ntmps74 rfl (by simp) fun hb hob => ?_
 have hq := rd4 hv0
 rw [slices_IndexFunc_Loc] at h
 refine X_seq ?_
 refine X_reg (lx_ok γ) ?_
 simp -implicitDefEqProofs only [go_sem, seval, hq]
 refine X_seq ?_
 refine X_seq ?_
 refine X_reg (lx_ok γ) ?_
 simp -implicitDefEqProofs only [go_sem, seval, hq]
 refine X_jq (J := fun as1 ob1 => slices_IndexFunc_Loc.k1 = some r ∧ [] = as1 ∧ ob = ob1) ?_ ?_
 ·rintro as1 ob1 ⟨h, rfl, rfl⟩
  rw [slices_IndexFunc_Loc.k1] at h
  simp -implicitDefEqProofs only [go_sem, seval, hq]
  refine X_seq ?_
  refine X_reg (lx_ok γ) ?_
  simp -implicitDefEqProofs only [go_sem, seval, hq]
  obtain rfl := Option.some.inj h
  refine X_ret ?_
  simp -implicitDefEqProofs only [go_sem, seval, hq]
  exact Rt.mv1 (BaseR.refl hob) (by simp) (VM.self (by simp))
 ·refine X_block ?_
  obtain ⟨lr1, hl1, hk1, hr1⟩ := aft2 h
  refine X_forN hl1 (fun (i1 : Nat) (s : Unit) as1 ob1 => [(0, v0), (1, w1), (7, vint .i64 (List.length a0 : Int)), (8, vint .i64 (i1 : Int))] = as1 ∧ ob = ob1) ⟨_, _, ?_, rfl, rfl⟩ ?_ ?_
  ·exact To.mv1 (BaseR.refl hob) (by simp) (by simp only [go_sem]; exact ⟨VM.self (by simpa using Bd.of_rdK hv0), VM.self (by simpa using hb w1 (by simp)), VM.self (by simp), VM.eqv (by simp) (by simp)⟩)
  ·rintro i1 _ o1 hi1 hw1 h ho1 as1 ob1 ⟨rfl, rfl⟩
   rw [slices_IndexFunc_Loc.b1] at h
   refine X_seq ?_
   refine X_reg (lx_ok γ) ?_
   simp -implicitDefEqProofs only [go_sem, seval, hi1, hq]
   refine X_seq ?_
   refine X_cond (lx_ok γ) ?_
   simp -implicitDefEqProofs only [go_sem, seval, hi1, hq]
   refine X_skip ?_
   try simp -implicitDefEqProofs only [go_sem]
   refine X_seq ?_
   refine X_block ?_
   refine X_seq ?_
   refine X_reg (lx_ok γ) ?_
   simp -implicitDefEqProofs only [go_sem, seval, hi1, hq]
   refine X_seq ?_
   refine X_reg (lx_ok γ) ?_
   obtain ⟨x2, f1, h⟩ := bindE h
   obtain ⟨f2, f3⟩ := ixL_nat f1
   have f4 : (0 : Int) ≤ (i1 : Int) := Int.natCast_nonneg _
   obtain ⟨x3, f5, h⟩ := bindE h
   simp -implicitDefEqProofs only [go_sem, seval, hi1, hq, f2, f3, f4]
   refine callV_fn (hf1 _ List.prefix_rfl _ _ f5) rfl rfl ?_
   simp -implicitDefEqProofs only [go_sem, seval, hi1, hq, f2, f3, f4]
   cases f6 : x3
   ·rw [if_neg (ne_true_of_eq_false f6)] at h
    refine X_cond (lx_ok γ) ?_
    simp -implicitDefEqProofs only [go_sem, seval, hi1, f6, hq, f2, f3, f4]
    refine X_skip ?_
    try simp -implicitDefEqProofs only [go_sem]
    refine X_reg (lx_ok γ) ?_
    obtain rfl := Option.some.inj h
    simp -implicitDefEqProofs only [go_sem, seval, hi1, f6, hq]
    refine kR_in rfl ?_ ⟨rfl, rfl⟩
    exact To.mv1 (BaseR.refl hob) (by simp) (by simp only [go_sem]; exact ⟨VM.self (by simpa using Bd.of_rdK hv0), VM.self (by simpa using hb w1 (by simp)), VM.self (by simp), VM.eqv (by rw [hw1]) (by simp)⟩)
   ·rw [if_pos f6] at h
    refine X_cond (lx_ok γ) ?_
    simp -implicitDefEqProofs only [go_sem, seval, hi1, f6, hq, f2, f3, f4]
    refine X_seq ?_
    refine X_reg (lx_ok γ) ?_
    simp -implicitDefEqProofs only [go_sem, seval, hi1, f6, hq]
    obtain rfl := Option.some.inj h
    have h := hr1 _ (ho1 (fun _ hs => nomatch hs))
    obtain rfl := Option.some.inj h
    refine X_ret ?_
    simp -implicitDefEqProofs only [go_sem, seval, hi1, f6, hq]
    exact Rt.mv1 (BaseR.refl hob) (by simp) (VM.self (by simp))
  ·rintro i1 _ hi1 hn1 as1 ob1 ⟨rfl, rfl⟩
   refine X_seq ?_
   refine X_reg (lx_ok γ) ?_
   simp -implicitDefEqProofs only [go_sem, seval, hi1, hq]
   refine X_seq ?_
   refine X_cond (lx_ok γ) ?_
   simp -implicitDefEqProofs only [go_sem, seval, hi1, hq]
   have h := hk1 _ (.inl hn1)
   refine X_exit ?_
   try simp -implicitDefEqProofs only [go_sem, ↓reduceIte, Nat.reduceEqDiff, reduceCtorEq]
   refine kJ_in ?_ ⟨h, rfl, rfl⟩
   exact To.mv1 (BaseR.refl hob) (by simp) trivial
end Go.Pf
end
section
set_option maxRecDepth 100000
namespace Go.Pf
open Go Go.Ab Go.Pp Go.Proofs Go.Proofs.S19
attribute [local go_sem] Lxτ Lxγ gam0 Int.toNat_natCast tau3 tau46 tau47 tau86 eI eB eS e_Loc e_Mins e_Text e_text_room e_text_reader e_portolanref19_reader
set_option maxHeartbeats 1000000 in
theorem slices_ContainsFunc_Loc_ok (γ : GT) (ob : OT) {a0 : List Loc} {v0 : V} {a1 : Loc → Option (Bool)} {w1 : V} (hv0 : rdK (getO ob) 2 v0 = some (List.map e_Loc a0)) (hf1 : ∀ (ob1 : OT), ob <+: ob1 → ∀ (y0 : Loc) (r : Bool), a1 y0 = some r → FnV (Lx γ) w1 [V.agg [vint .i64 y0.Kind, vint .i64 y0.N]] ob1 (vbool r) ob1) {r : Bool} (h : slices_ContainsFunc_Loc a0 a1 = some r) :
  Valid (Lx γ) 52 [v0, w1] ob (vbool r) ob := by
 refine valid_X (lx_ok γ) (fn := Tryd.f52) (rs := [.tmp 4]) Tryd.func52 (by kernel_rfl) rfl rfl Tryd.ntmps52 rfl (by simp) fun hb hob => ?_
 have hq := rd4 hv0
 rw [slices_ContainsFunc_Loc] at h
 refine X_seq ?_
 refine X_reg (lx_ok γ) ?_
 simp -implicitDefEqProofs only [go_sem, seval, hq]
 refine X_seq ?_
 refine X_reg (lx_ok γ) ?_
 obtain ⟨x1, f1, h⟩ := bindE h
 simp -implicitDefEqProofs only [go_sem, seval, hq]
 refine callV_eq (slices_IndexFunc_Loc_ok γ _ (by first | exact rdK_app hv0 | exact hv0) hf1 f1) rfl rfl ?_
 simp -implicitDefEqProofs only [go_sem, seval, hq]
 obtain rfl := Option.some.inj h
 refine X_ret ?_
 simp -implicitDefEqProofs only [go_sem, seval, hq]
 exact Rt.mv1 (BaseR.refl hob) (by simp) (VM.self (by simp))
end Go.Pf
end
section
set_option maxRecDepth 100000
namespace Go.Pf
open Go Go.Ab Go.Pp Go.Proofs Go.Proofs.S19
attribute [local go_sem] Lxτ Lxγ gam0 Int.toNat_natCast tau3 tau46 tau61 eI eB eS e_Loc e_Mins e_Text e_text_room e_text_reader e_portolanref19_reader
set_option maxHeartbeats 1000000 in
theorem text_room_in_ok (γ : GT) (ob : OT) {a0 : text_room} {a1 : Loc} {r : Bool} (h : text_room_in a0 a1 = some r) :
  Valid (Lx γ) 54 [V.agg [vint .i64 a0.from_, vint .i64 a0.to_, vint .i64 a0.slots, vint .i64 a0.funcs], V.agg [vint .i64 a1.Kind, vint .i64 a1.N]] ob (vbool r) ob := by
 refine valid_X (lx_ok γ) (fn := Tryd.f54) (rs := [.tmp 4]) Tryd.func54 (by kernel_rfl) rfl rfl Tryd.ntmps54 rfl (by simp) fun hb hob => ?_
 rw [text_room_in] at h
 refine X_seq ?_
 refine X_reg (lx_ok γ) ?_
 simp -implicitDefEqProofs only [go_sem, seval]
 refine X_seq ?_
 refine X_seq ?_
 refine X_reg (lx_ok γ) ?_
 simp -implicitDefEqProofs only [go_sem, seval]
 refine X_block ?_
 refine X_seq ?_
 refine X_reg (lx_ok γ) ?_
 simp -implicitDefEqProofs only [go_sem, seval]
 cases f1 : (a1.Kind == 1)
 ·rw [if_neg (ne_true_of_eq_false f1)] at h
  refine X_cond (lx_ok γ) ?_
  simp -implicitDefEqProofs only [go_sem, seval, f1]
  refine X_seq ?_
  refine X_reg (lx_ok γ) ?_
  simp -implicitDefEqProofs only [go_sem, seval, f1]
  cases f2 : (a1.Kind == 2)
  ·rw [if_neg (ne_true_of_eq_false f2)] at h
   refine X_cond (lx_ok γ) ?_
   simp -implicitDefEqProofs only [go_sem, seval, f1, f2]
   refine X_skip ?_
   try simp -implicitDefEqProofs only [go_sem]
   refine X_seq ?_
   refine X_reg (lx_ok γ) ?_
   simp -implicitDefEqProofs only [go_sem, seval, f1, f2]
   obtain rfl := Option.some.inj h
   refine X_ret ?_
   simp -implicitDefEqProofs only [go_sem, seval, f1, f2]
   exact Rt.mv0 (BaseR.refl hob) (by simp) (VM.self (by simp))
  ·rw [if_pos f2] at h
   refine X_cond (lx_ok γ) ?_
   simp -implicitDefEqProofs only [go_sem, seval, f1, f2]
   refine X_seq ?_
   refine X_reg (lx_ok γ) ?_
   obtain ⟨x1, f3, h⟩ := bindE h
   simp -implicitDefEqProofs only [go_sem, seval, f1, f2]
   refine callV_eq (text_within_ok γ _  f3) rfl rfl ?_
   simp -implicitDefEqProofs only [go_sem, seval, f1, f2]
   obtain rfl := Option.some.inj h
   refine X_ret ?_
   simp -implicitDefEqProofs only [go_sem, seval, f1, f2]
   exact Rt.mv0 (BaseR.refl hob) (by simp) (VM.self (by simp))
 ·rw [if_pos f1] at h
  refine X_cond (lx_ok γ) ?_
  simp -implicitDefEqProofs only [go_sem, seval, f1]
  refine X_seq ?_
  refine X_reg (lx_ok γ) ?_
  obtain ⟨x2, f4, h⟩ := bindE h
  simp -implicitDefEqProofs only [go_sem, seval, f1]
  refine callV_eq (text_within_ok γ _  f4) rfl rfl ?_
  simp -implicitDefEqProofs only [go_sem, seval, f1]
  obtain rfl := Option.some.inj h
  refine X_ret ?_
  simp -implicitDefEqProofs only [go_sem, seval, f1]
  exact Rt.mv0 (BaseR.refl hob) (by simp) (VM.self (by simp))
end Go.Pf
end
section
set_option maxRecDepth 100000
namespace Go.Pf
open Go Go.Ab Go.Pp Go.Proofs Go.Proofs.S19
attribute [local go_sem] Lxτ Lxγ gam0 Int.toNat_natCast tau3 tau4 tau46 tau61 eI eB eS e_Loc e_Mins e_Text e_text_room e_text_reader e_portolanref19_reader
set_option maxHeartbeats 1000000 in
theorem text_room_may_1_ok (γ : GT) (ob : OT) {a0 : Loc} {o1 : Nat} {a1 : text_room} (hx1 : getO ob o1 = some (O.box [vint .i64 a1.from_, vint .i64 a1.to_, vint .i64 a1.slots, vint .i64 a1.funcs])) {r : Bool} (h : text_room_may_1 a0 a1 = some r) :
  Valid (Lx γ) 53 [V.agg [vint .i64 a0.Kind, vint .i64 a0.N], V.ref o1 0] ob (vbool r) ob := by
 refine valid_X (lx_ok γ) (fn := Tryd.f53) (rs := [.tmp 3]) Tryd.func53 (by kernel_rfl) rfl rfl Tryd.ntmps53 rfl (by simp) fun hb hob => ?_
 have hoa1 := getO_lt hx1
 rw [text_room_may_1] at h
 refine X_seq ?_
 refine X_reg (lx_ok γ) ?_
 simp -implicitDefEqProofs only [go_sem, seval, hx1, getO_ext hx1]
 refine X_seq ?_
 refine X_reg (lx_ok γ) ?_
 obtain ⟨x1, f1, h⟩ := bindE h
 simp -implicitDefEqProofs only [go_sem, seval, hx1, getO_ext hx1]
 refine callV_eq (text_room_in_ok γ _  f1) rfl rfl ?_
 simp -implicitDefEqProofs only [go_sem, seval, hx1, getO_ext hx1]
 obtain rfl := Option.some.inj h
 refine X_ret ?_
 simp -implicitDefEqProofs only [go_sem, seval, hx1, getO_ext hx1]
 exact Rt.mv0 (BaseR.refl hob) (by simp) (VM.self (by simp))
end Go.Pf
end
section
set_option maxRecDepth 100000
namespace Go.Pf
open Go Go.Ab Go.Pp Go.Proofs Go.Proofs.S19
attribute [local go_sem] Lxτ Lxγ gam0 Int.toNat_natCast  eI eB eS e_Loc e_Mins e_Text e_text_room e_text_reader e_portolanref19_reader
set_option maxHeartbeats 1000000 in
theorem stringslite_IndexByte_calls (s : ByteArray) (c : Int) (w : World) :
  Calls Tryd.prog 75 #[.string s, .int .u8 c] w fun e w' => e = .returned (.int .i64 (Lib.indexByte s.data.toList c.toNat.toUInt8)) ∧ w' = w := by
 go_enter Tryd.func75, Tryd.ntmps75
 go_wp2
 rw [run_callFunc_extern Tryd.func82 (by kernel_rfl) (by kernel_rfl) (by kernel_rfl) (e := Extern.BytealgIndexByte.indexByte) (by kernel_rfl), Lib.run_indexByteString]
 simp only [Result.andThen]
 rw [Oper.upon_value]
 go_wp2
 go_ret
 exact ⟨rfl, rfl⟩
theorem stringslite_IndexByte_ok (γ : GT) (ob : OT) {a0 : ByteArray} {a1 : Int} {r : Int} (h : stringslite_IndexByte a0 a1 = some r) :
  Valid (Lx γ) 75 [vstr a0, vint .u8 a1] ob (vint .i64 r) ob := by
 rw [stringslite_IndexByte] at h
 obtain rfl := Option.some.inj h
 refine Valid.quiet2 ⟨⟨Tryd.f75, Tryd.func75, by kernel_rfl, rfl⟩⟩ (fun M G => .tr (.lit _ rfl)) (fun w => ?_)
 refine (stringslite_IndexByte_calls a0 a1 w).mono ?_
 rintro e w' ⟨rfl, rfl⟩
 exact ⟨by rw [ixBL_is]; rfl, rfl⟩
end Go.Pf
end
section
set_option maxRecDepth 100000
namespace Go.Pf
open Go Go.Ab Go.Pp Go.Proofs Go.Proofs.S19
attribute [local go_sem] Lxτ Lxγ gam0 Int.toNat_natCast tau5 tau9 eI eB eS e_Loc e_Mins e_Text e_text_room e_text_reader e_portolanref19_reader
set_option maxHeartbeats 1000000 in
theorem strings_IndexByte_ok (γ : GT) (ob : OT) {a0 : ByteArray} {a1 : Int} {r : Int} (h : strings_IndexByte a0 a1 = some r) :
  Valid (Lx γ) 55 [vstr a0, vint .u8 a1] ob (vint .i64 r) ob := by
 refine valid_X (lx_ok γ) (fn := Tryd.f55) (rs := [.tmp 4]) Tryd.func55 (by kernel_rfl) rfl rfl Tryd.ntmps55 rfl (by simp) fun hb hob => ?_
 rw [strings_IndexByte] at h
 refine X_seq ?_
 refine X_reg (lx_ok γ) ?_
 simp -implicitDefEqProofs only [go_sem, seval]
 refine X_seq ?_
 refine X_reg (lx_ok γ) ?_
 obtain ⟨x1, f1, h⟩ := bindE h
 simp -implicitDefEqProofs only [go_sem, seval]
 refine callV_eq (stringslite_IndexByte_ok γ _  f1) rfl rfl ?_
 simp -implicitDefEqProofs only [go_sem, seval]
 obtain rfl := Option.some.inj h
 refine X_ret ?_
 simp -implicitDefEqProofs only [go_sem, seval]
 exact Rt.mv1 (BaseR.refl hob) (by simp) (VM.self (by simp))
end Go.Pf
end
section
set_option maxRecDepth 100000
namespace Go.Pf
open Go Go.Ab Go.Pp Go.Proofs Go.Proofs.S19
attribute [local go_sem] Lxτ Lxγ gam0 Int.toNat_natCast tau9 tau21 eI eB eS e_Loc e_Mins e_Text e_text_room e_text_reader e_portolanref19_reader
set_option maxHeartbeats 1000000 in
theorem text_hasAny_ok (γ : GT) (ob : OT) {a0 : ByteArray} {a1 : ByteArray} {r : Bool} (h : text_hasAny a0 a1 = some r) :
  Valid (Lx γ) 57 [vstr a0, vstr a1] ob (vbool r) ob := by
 refine valid_X (lx_ok γ) (fn := Tryd.f57) (rs := [.tmp 4]) Tryd.func57 (by kernel_rfl) rfl rfl Tryd.ntmps57 rfl (by simp) fun hb hob => ?_
 rw [text_hasAny] at h
 refine X_seq ?_
 refine X_reg (lx_ok γ) ?_
 simp -implicitDefEqProofs only [go_sem, seval]
 refine X_seq ?_
 refine X_seq ?_
 refine X_reg (lx_ok γ) ?_
 simp -implicitDefEqProofs only [go_sem, seval]
 refine X_jq (J := fun as1 ob1 => text_hasAny.k1 = some r ∧ [] = as1 ∧ ob = ob1) ?_ ?_
 ·rintro as1 ob1 ⟨h, rfl, rfl⟩
  rw [text_hasAny.k1] at h
  simp -implicitDefEqProofs only [go_sem, seval]
  refine X_seq ?_
  refine X_reg (lx_ok γ) ?_
  simp -implicitDefEqProofs only [go_sem, seval]
  obtain rfl := Option.some.inj h
  refine X_ret ?_
  simp -implicitDefEqProofs only [go_sem, seval]
  exact Rt.mv1 (BaseR.refl hob) (by simp) (VM.self (by simp))
 ·refine X_block ?_
  obtain ⟨lr1, hl1, hk1, hr1⟩ := aft2 h
  refine X_while hl1 (fun (s : Nat) as1 ob1 => [(1, vstr a1), (10, V.ref ob.length 0)] = as1 ∧ ob ++ [some (O.iter a0 s)] = ob1) ⟨_, _, ?_, rfl, rfl⟩ ?_
  ·exact To.mv [(0, 0)] (BaseR.refl hob) (by simp) (by decide) (by simp only [go_sem]; exact ⟨VM.self (by simp), VM.refA (j := 0) (t := 0) rfl⟩) ⟨⟨_, rfl, OM.iter _ _⟩, trivial⟩
  ·rintro x1 o1 h ho1 as1 ob1 ⟨rfl, rfl⟩
   rw [text_hasAny.b1] at h
   refine X_seq ?_
   refine X_reg (lx_ok γ) ?_
   simp -implicitDefEqProofs only [go_sem, seval]
   refine X_seq ?_
   cases f1 : decide (x1 < a0.size)
   ·rw [if_neg (ne_true_of_eq_false f1)] at h
    refine X_cond (lx_ok γ) ?_
    simp -implicitDefEqProofs only [go_sem, seval, f1]
    obtain rfl := Option.some.inj h
    have h := hk1 _ (.inr (ho1 (fun _ hs => nomatch hs)))
    refine X_exit ?_
    try simp -implicitDefEqProofs only [go_sem, ↓reduceIte, Nat.reduceEqDiff, reduceCtorEq]
    refine kJ_in ?_ ⟨h, rfl, rfl⟩
    exact To.mv0 (BaseR.refl hob) (by simp) trivial
   ·rw [if_pos f1] at h
    refine X_cond (lx_ok γ) ?_
    simp -implicitDefEqProofs only [go_sem, seval, f1]
    refine X_skip ?_
    try simp -implicitDefEqProofs only [go_sem]
    refine X_block ?_
    refine X_seq ?_
    refine X_reg (lx_ok γ) ?_
    simp -implicitDefEqProofs only [go_sem, seval, f1]
    refine X_seq ?_
    refine X_reg (lx_ok γ) ?_
    simp -implicitDefEqProofs only [go_sem, seval, f1]
    refine X_jq (J := fun as1 ob1 => text_hasAny.k2 a0 x1 = some o1 ∧ [(1, vstr a1), (10, V.ref ob.length 0)] = as1 ∧ ob ++ [some (O.iter a0 (nxP a0 x1))] = ob1) ?_ ?_
    ·rintro as1 ob1 ⟨h, rfl, rfl⟩
     rw [text_hasAny.k2] at h
     obtain rfl := Option.some.inj h
     simp -implicitDefEqProofs only [go_sem, seval, f1]
     refine kR_in rfl ?_ ⟨rfl, rfl⟩
     exact To.mv [(0, 0)] (BaseR.refl hob) (by simp) (by decide) (by simp only [go_sem]; exact ⟨VM.self (by simp), VM.refA (j := 0) (t := 0) rfl⟩) ⟨⟨_, rfl, OM.iter _ _⟩, trivial⟩
    ·refine X_block ?_
     obtain ⟨lr2, hl2, hk2, hr2⟩ := aft2 h
     refine X_while hl2 (fun (s : Nat) as1 ob1 => [(1, vstr a1), (6, vint .i32 (decI a0 x1)), (10, V.ref ob.length 0), (15, V.ref (ob.length + 1) 0)] = as1 ∧ ob ++ [some (O.iter a0 (nxP a0 x1)), some (O.iter a1 s)] = ob1) ⟨_, _, ?_, rfl, rfl⟩ ?_
     ·exact To.mv [(0, 0), (1, 0)] (BaseR.refl hob) (by simp) (by decide) (by simp only [go_sem]; exact ⟨VM.self (by simp), VM.self (by simp), VM.refA (j := 0) (t := 0) rfl, VM.refA (j := 1) (t := 1) rfl⟩) ⟨⟨_, rfl, OM.iter _ _⟩, ⟨_, rfl, OM.iter _ _⟩, trivial⟩
     ·rintro x2 o2 h ho2 as1 ob1 ⟨rfl, rfl⟩
      rw [text_hasAny.b2] at h
      refine X_seq ?_
      refine X_reg (lx_ok γ) ?_
      simp -implicitDefEqProofs only [go_sem, seval, f1]
      refine X_seq ?_
      cases f2 : decide (x2 < a1.size)
      ·rw [if_neg (ne_true_of_eq_false f2)] at h
       refine X_cond (lx_ok γ) ?_
       simp -implicitDefEqProofs only [go_sem, seval, f1, f2]
       obtain rfl := Option.some.inj h
       have h := hk2 _ (.inr (ho2 (fun _ hs => nomatch hs)))
       refine X_exit ?_
       try simp -implicitDefEqProofs only [go_sem, ↓reduceIte, Nat.reduceEqDiff, reduceCtorEq]
       refine kJ_in ?_ ⟨h, rfl, rfl⟩
       exact To.mv [(0, 0)] (BaseR.refl hob) (by simp) (by decide) (by simp only [go_sem]; exact ⟨VM.self (by simp), VM.refA (j := 0) (t := 0) rfl⟩) ⟨⟨_, rfl, OM.iter _ _⟩, trivial⟩
      ·rw [if_pos f2] at h
       refine X_cond (lx_ok γ) ?_
       simp -implicitDefEqProofs only [go_sem, seval, f1, f2]
       refine X_skip ?_
       try simp -implicitDefEqProofs only [go_sem]
       refine X_block ?_
       refine X_seq ?_
       refine X_reg (lx_ok γ) ?_
       simp -implicitDefEqProofs only [go_sem, seval, f1, f2]
       refine X_seq ?_
       refine X_reg (lx_ok γ) ?_
       simp -implicitDefEqProofs only [go_sem, seval, f1, f2]
       cases f3 : ((decI a0 x1) == (decI a1 x2))
       ·rw [if_neg (ne_true_of_eq_false f3)] at h
        refine X_cond (lx_ok γ) ?_
        simp -implicitDefEqProofs only [go_sem, seval, f1, f2, f3]
        obtain rfl := Option.some.inj h
        refine X_skip ?_
        try simp -implicitDefEqProofs only [go_sem]
        refine kR_in rfl ?_ ⟨rfl, rfl⟩
        exact To.mv [(0, 0), (1, 0)] (BaseR.refl hob) (by simp) (by decide) (by simp only [go_sem]; exact ⟨VM.self (by simp), VM.self (by simp), VM.refA (j := 0) (t := 0) rfl, VM.refA (j := 1) (t := 1) rfl⟩) ⟨⟨_, rfl, OM.iter _ _⟩, ⟨_, rfl, OM.iter _ _⟩, trivial⟩
       ·rw [if_pos f3] at h
        refine X_cond (lx_ok γ) ?_
        simp -implicitDefEqProofs only [go_sem, seval, f1, f2, f3]
        refine X_seq ?_
        refine X_reg (lx_ok γ) ?_
        simp -implicitDefEqProofs only [go_sem, seval, f1, f2, f3]
        obtain rfl := Option.some.inj h
        have h := hr2 _ (ho2 (fun _ hs => nomatch hs))
        obtain rfl := Option.some.inj h
        have h := hr1 _ (ho1 (fun _ hs => nomatch hs))
        obtain rfl := Option.some.inj h
        refine X_ret ?_
        simp -implicitDefEqProofs only [go_sem, seval, f1, f2, f3]
        exact Rt.mv0 (BaseR.refl hob) (by simp) (VM.self (by simp))
end Go.Pf
end
section
set_option maxRecDepth 100000
namespace Go.Pf
open Go Go.Ab Go.Pp Go.Proofs Go.Proofs.S19
attribute [local go_sem] Lxτ Lxγ gam0 Int.toNat_natCast tau3 tau4 tau9 eI eB eS e_Loc e_Mins e_Text e_text_room e_text_reader e_portolanref19_reader
set_option maxHeartbeats 1000000 in
theorem text_room_may_2_ok (γ : GT) (ob : OT) {a0 : Int} {a1 : ByteArray} {o2 : Nat} {a2 : ByteArray} (hx2 : getO ob o2 = some (O.box [vstr a2])) {r : Bool} (h : text_room_may_2 a0 a1 a2 = some r) :
  Valid (Lx γ) 56 [vint .i64 a0, vstr a1, V.ref o2 0] ob (vbool r) ob := by
 refine valid_X (lx_ok γ) (fn := Tryd.f56) (rs := [.tmp 5]) Tryd.func56 (by kernel_rfl) rfl rfl Tryd.ntmps56 rfl (by simp) fun hb hob => ?_
 have hoa2 := getO_lt hx2
 rw [text_room_may_2] at h
 refine X_seq ?_
 refine X_reg (lx_ok γ) ?_
 simp -implicitDefEqProofs only [go_sem, seval, hx2, getO_ext hx2]
 refine X_seq ?_
 refine X_reg (lx_ok γ) ?_
 cases f1 : (a0 != 0)
 ·rw [if_neg (ne_true_of_eq_false f1)] at h
  simp -implicitDefEqProofs only [go_sem, seval, f1, hx2, getO_ext hx2]
  obtain rfl := Option.some.inj h
  refine X_ret ?_
  simp -implicitDefEqProofs only [go_sem, seval, f1, hx2, getO_ext hx2]
  exact Rt.mv1 (BaseR.refl hob) (by simp) (VM.self (by simp))
 ·rw [if_pos f1] at h
  obtain ⟨x1, f2, h⟩ := bindE h
  simp -implicitDefEqProofs only [go_sem, seval, f1, hx2, getO_ext hx2]
  refine callV_eq (text_hasAny_ok γ _  f2) rfl rfl ?_
  simp -implicitDefEqProofs only [go_sem, seval, f1, hx2, getO_ext hx2]
  obtain rfl := Option.some.inj h
  refine X_ret ?_
  simp -implicitDefEqProofs only [go_sem, seval, f1, hx2, getO_ext hx2]
  exact Rt.mv1 (BaseR.refl hob) (by simp) (VM.self (by simp))
end Go.Pf
end
section
set_option maxRecDepth 100000
namespace Go.Pf
open Go Go.Ab Go.Pp Go.Proofs Go.Proofs.S19
attribute [local go_sem] Lxτ Lxγ gam0 Int.toNat_natCast tau3 tau46 tau47 tau49 tau61 eI eB eS e_Loc e_Mins e_Text e_text_room e_text_reader e_portolanref19_reader
set_option maxHeartbeats 1000000 in
theorem text_room_numbers_ok (γ : GT) (ob : OT) {a0 : text_room} {a1 : Mins} {v1_11 : V} (hv1_11 : rdK (getO ob) 2 v1_11 = some (List.map e_Loc a1.Args)) {r : Bool} (h : text_room_numbers a0 a1 = some r) :
  Valid (Lx γ) 58 [V.agg [vint .i64 a0.from_, vint .i64 a0.to_, vint .i64 a0.slots, vint .i64 a0.funcs], V.agg [vint .i64 a1.Op, vint .i64 a1.D.Kind, vint .i64 a1.D.N, vint .i64 a1.A.Kind, vint .i64 a1.A.N, vint .i64 a1.B.Kind, vint .i64 a1.B.N, vint .i64 a1.C.Kind, vint .i64 a1.C.N, vint .i64 a1.N, vint .i64 a1.M, v1_11]] ob (vbool r) ob := by
 refine valid_X (lx_ok γ) (fn := Tryd.f58) (rs := [.tmp 4]) Tryd.func58 (by kernel_rfl) rfl rfl Tryd.ntmps58 rfl (by simp) fun hb hob => ?_
 have hq := rd4 hv1_11
 rw [text_room_numbers] at h
 refine X_seq ?_
 refine X_reg (lx_ok γ) ?_
 simp -implicitDefEqProofs only [go_sem, seval, hq]
 refine X_seq ?_
 refine X_seq ?_
 refine X_reg (lx_ok γ) ?_
 simp -implicitDefEqProofs only [go_sem, seval, hq]
 refine X_block ?_
 refine X_seq ?_
 refine X_reg (lx_ok γ) ?_
 simp -implicitDefEqProofs only [go_sem, seval, hq]
 cases f1 : (a1.Op == 21)
 ·rw [if_neg (ne_true_of_eq_false f1)] at h
  refine X_cond (lx_ok γ) ?_
  simp -implicitDefEqProofs only [go_sem, seval, f1, hq]
  refine X_seq ?_
  refine X_reg (lx_ok γ) ?_
  simp -implicitDefEqProofs only [go_sem, seval, f1, hq]
  cases f2 : (a1.Op == 22)
  ·rw [if_neg (ne_true_of_eq_false f2)] at h
   refine X_cond (lx_ok γ) ?_
   simp -implicitDefEqProofs only [go_sem, seval, f1, f2, hq]
   refine X_seq ?_
   refine X_reg (lx_ok γ) ?_
   simp -implicitDefEqProofs only [go_sem, seval, f1, f2, hq]
   cases f3 : (a1.Op == 19)
   ·rw [if_neg (ne_true_of_eq_false f3)] at h
    refine X_cond (lx_ok γ) ?_
    simp -implicitDefEqProofs only [go_sem, seval, f1, f2, f3, hq]
    refine X_seq ?_
    refine X_reg (lx_ok γ) ?_
    simp -implicitDefEqProofs only [go_sem, seval, f1, f2, f3, hq]
    cases f4 : (a1.Op == 10)
    ·rw [if_neg (ne_true_of_eq_false f4)] at h
     refine X_cond (lx_ok γ) ?_
     simp -implicitDefEqProofs only [go_sem, seval, f1, f2, f3, f4, hq]
     refine X_seq ?_
     refine X_jq (J := fun as1 ob1 => ∃ (x5 : Bool), text_room_numbers.j1 a1 x5 = some r ∧ [(3, V.ref ob.length 0), (6, vint .i64 a1.Op), (55, vbool x5)] = as1 ∧ ob ++ [some (O.box [vint .i64 a1.Op, vint .i64 a1.D.Kind, vint .i64 a1.D.N, vint .i64 a1.A.Kind, vint .i64 a1.A.N, vint .i64 a1.B.Kind, vint .i64 a1.B.N, vint .i64 a1.C.Kind, vint .i64 a1.C.N, vint .i64 a1.N, vint .i64 a1.M, v1_11])] = ob1) ?_ ?_
     ·rintro as1 ob1 ⟨x5, h, rfl, rfl⟩
      rw [text_room_numbers.j1] at h
      simp -implicitDefEqProofs only [go_sem, seval, f1, f2, f3, f4, hq]
      cases f5 : x5
      ·rw [if_neg (ne_true_of_eq_false f5)] at h
       refine X_cond (lx_ok γ) ?_
       simp -implicitDefEqProofs only [go_sem, seval, f1, f2, f3, f4, f5, hq]
       refine X_seq ?_
       refine X_reg (lx_ok γ) ?_
       simp -implicitDefEqProofs only [go_sem, seval, f1, f2, f3, f4, f5, hq]
       cases f6 : (a1.Op == 16)
       ·rw [if_neg (ne_true_of_eq_false f6)] at h
        refine X_cond (lx_ok γ) ?_
        simp -implicitDefEqProofs only [go_sem, seval, f1, f2, f3, f4, f5, f6, hq]
        refine X_seq ?_
        refine X_reg (lx_ok γ) ?_
        simp -implicitDefEqProofs only [go_sem, seval, f1, f2, f3, f4, f5, f6, hq]
        cases f7 : (a1.Op == 1)
        ·rw [if_neg (ne_true_of_eq_false f7)] at h
         refine X_cond (lx_ok γ) ?_
         simp -implicitDefEqProofs only [go_sem, seval, f1, f2, f3, f4, f5, f6, f7, hq]
         refine X_skip ?_
         try simp -implicitDefEqProofs only [go_sem]
         refine X_seq ?_
         refine X_reg (lx_ok γ) ?_
         simp -implicitDefEqProofs only [go_sem, seval, f1, f2, f3, f4, f5, f6, f7, hq]
         obtain rfl := Option.some.inj h
         refine X_ret ?_
         simp -implicitDefEqProofs only [go_sem, seval, f1, f2, f3, f4, f5, f6, f7, hq]
         exact Rt.mv0 (BaseR.refl hob) (by simp) (VM.self (by simp))
        ·rw [if_pos f7] at h
         refine X_cond (lx_ok γ) ?_
         simp -implicitDefEqProofs only [go_sem, seval, f1, f2, f3, f4, f5, f6, f7, hq]
         refine X_seq ?_
         refine X_reg (lx_ok γ) ?_
         obtain ⟨x6, f8, h⟩ := bindE h
         simp -implicitDefEqProofs only [go_sem, seval, f1, f2, f3, f4, f5, f6, f7, hq]
         refine callV_eq (text_within_ok γ _  f8) rfl rfl ?_
         simp -implicitDefEqProofs only [go_sem, seval, f1, f2, f3, f4, f5, f6, f7, hq]
         obtain rfl := Option.some.inj h
         refine X_ret ?_
         simp -implicitDefEqProofs only [go_sem, seval, f1, f2, f3, f4, f5, f6, f7, hq]
         exact Rt.mv0 (BaseR.refl hob) (by simp) (VM.self (by simp))
       ·rw [if_pos f6] at h
        refine X_cond (lx_ok γ) ?_
        simp -implicitDefEqProofs only [go_sem, seval, f1, f2, f3, f4, f5, f6, hq]
        refine X_seq ?_
        refine X_reg (lx_ok γ) ?_
        obtain ⟨x7, f9, h⟩ := bindE h
        simp -implicitDefEqProofs only [go_sem, seval, f1, f2, f3, f4, f5, f6, hq]
        refine callV_eq (text_within_ok γ _  f9) rfl rfl ?_
        simp -implicitDefEqProofs only [go_sem, seval, f1, f2, f3, f4, f5, f6, hq]
        obtain rfl := Option.some.inj h
        refine X_ret ?_
        simp -implicitDefEqProofs only [go_sem, seval, f1, f2, f3, f4, f5, f6, hq]
        exact Rt.mv0 (BaseR.refl hob) (by simp) (VM.self (by simp))
      ·rw [if_pos f5] at h
       refine X_cond (lx_ok γ) ?_
       simp -implicitDefEqProofs only [go_sem, seval, f1, f2, f3, f4, f5, hq]
       refine X_seq ?_
       refine X_reg (lx_ok γ) ?_
       obtain ⟨x8, f10, h⟩ := bindE h
       simp -implicitDefEqProofs only [go_sem, seval, f1, f2, f3, f4, f5, hq]
       refine callV_eq (text_within_ok γ _  f10) rfl rfl ?_
       simp -implicitDefEqProofs only [go_sem, seval, f1, f2, f3, f4, f5, hq]
       obtain rfl := Option.some.inj h
       refine X_ret ?_
       simp -implicitDefEqProofs only [go_sem, seval, f1, f2, f3, f4, f5, hq]
       exact Rt.mv0 (BaseR.refl hob) (by simp) (VM.self (by simp))
     ·refine X_seq ?_
      refine X_reg (lx_ok γ) ?_
      simp -implicitDefEqProofs only [go_sem, seval, f1, f2, f3, f4, hq]
      cases f11 : (a1.Op == 15)
      ·rw [if_neg (ne_true_of_eq_false f11)] at h
       refine X_cond (lx_ok γ) ?_
       simp -implicitDefEqProofs only [go_sem, seval, f1, f2, f3, f4, f11, hq]
       refine X_seq ?_
       refine X_reg (lx_ok γ) ?_
       simp -implicitDefEqProofs only [go_sem, seval, f1, f2, f3, f4, f11, hq]
       cases f12 : (a1.Op == 11)
       ·rw [if_neg (ne_true_of_eq_false f12)] at h
        refine X_cond (lx_ok γ) ?_
        simp -implicitDefEqProofs only [go_sem, seval, f1, f2, f3, f4, f11, f12, hq]
        refine X_seq ?_
        refine X_reg (lx_ok γ) ?_
        simp -implicitDefEqProofs only [go_sem, seval, f1, f2, f3, f4, f11, f12, hq]
        cases f13 : (a1.Op == 13)
        ·rw [if_neg (ne_true_of_eq_false f13)] at h
         refine X_cond (lx_ok γ) ?_
         simp -implicitDefEqProofs only [go_sem, seval, f1, f2, f3, f4, f11, f12, f13, hq]
         refine X_seq ?_
         refine X_reg (lx_ok γ) ?_
         simp -implicitDefEqProofs only [go_sem, seval, f1, f2, f3, f4, f11, f12, f13, hq]
         cases f14 : (a1.Op == 12)
         ·rw [if_neg (ne_true_of_eq_false f14)] at h
          refine X_cond (lx_ok γ) ?_
          simp -implicitDefEqProofs only [go_sem, seval, f1, f2, f3, f4, f11, f12, f13, f14, hq]
          refine X_reg (lx_ok γ) ?_
          simp -implicitDefEqProofs only [go_sem, seval, f1, f2, f3, f4, f11, f12, f13, f14, hq]
          refine kJ_in ?_ ⟨(a1.Op == 14), h, rfl, rfl⟩
          exact To.mv [(1, 0)] (BaseR.refl hob) (by simp) (by decide) (by simp only [go_sem]; exact ⟨VM.refA (j := 1) (t := 0) rfl, VM.self (by simp), VM.self (by simp)⟩) ⟨⟨_, rfl, OM.box _ _ ⟨VM.self (by simp), VM.self (by simp), VM.self (by simp), VM.self (by simp), VM.self (by simp), VM.self (by simp), VM.self (by simp), VM.self (by simp), VM.self (by simp), VM.self (by simp), VM.self (by simp), VM.self (by simpa using Bd.of_rdK hv1_11), trivial⟩⟩, trivial⟩
         ·rw [if_pos f14] at h
          refine X_cond (lx_ok γ) ?_
          simp -implicitDefEqProofs only [go_sem, seval, f1, f2, f3, f4, f11, f12, f13, f14, hq]
          refine X_skip ?_
          try simp -implicitDefEqProofs only [go_sem]
          refine kJ_in ?_ ⟨true, h, rfl, rfl⟩
          exact To.mv [(1, 0)] (BaseR.refl hob) (by simp) (by decide) (by simp only [go_sem]; exact ⟨VM.refA (j := 1) (t := 0) rfl, VM.self (by simp), VM.self (by simp)⟩) ⟨⟨_, rfl, OM.box _ _ ⟨VM.self (by simp), VM.self (by simp), VM.self (by simp), VM.self (by simp), VM.self (by simp), VM.self (by simp), VM.self (by simp), VM.self (by simp), VM.self (by simp), VM.self (by simp), VM.self (by simp), VM.self (by simpa using Bd.of_rdK hv1_11), trivial⟩⟩, trivial⟩
        ·rw [if_pos f13] at h
         refine X_cond (lx_ok γ) ?_
         simp -implicitDefEqProofs only [go_sem, seval, f1, f2, f3, f4, f11, f12, f13, hq]
         refine X_skip ?_
         try simp -implicitDefEqProofs only [go_sem]
         refine kJ_in ?_ ⟨true, h, rfl, rfl⟩
         exact To.mv [(1, 0)] (BaseR.refl hob) (by simp) (by decide) (by simp only [go_sem]; exact ⟨VM.refA (j := 1) (t := 0) rfl, VM.self (by simp), VM.self (by simp)⟩) ⟨⟨_, rfl, OM.box _ _ ⟨VM.self (by simp), VM.self (by simp), VM.self (by simp), VM.self (by simp), VM.self (by simp), VM.self (by simp), VM.self (by simp), VM.self (by simp), VM.self (by simp), VM.self (by simp), VM.self (by simp), VM.self (by simpa using Bd.of_rdK hv1_11), trivial⟩⟩, trivial⟩
       ·rw [if_pos f12] at h
        refine X_cond (lx_ok γ) ?_
        simp -implicitDefEqProofs only [go_sem, seval, f1, f2, f3, f4, f11, f12, hq]
        refine X_skip ?_
        try simp -implicitDefEqProofs only [go_sem]
        refine kJ_in ?_ ⟨true, h, rfl, rfl⟩
        exact To.mv [(1, 0)] (BaseR.refl hob) (by simp) (by decide) (by simp only [go_sem]; exact ⟨VM.refA (j := 1) (t := 0) rfl, VM.self (by simp), VM.self (by simp)⟩) ⟨⟨_, rfl, OM.box _ _ ⟨VM.self (by simp), VM.self (by simp), VM.self (by simp), VM.self (by simp), VM.self (by simp), VM.self (by simp), VM.self (by simp), VM.self (by simp), VM.self (by simp), VM.self (by simp), VM.self (by simp), VM.self (by simpa using Bd.of_rdK hv1_11), trivial⟩⟩, trivial⟩
      ·rw [if_pos f11] at h
       refine X_cond (lx_ok γ) ?_
       simp -implicitDefEqProofs only [go_sem, seval, f1, f2, f3, f4, f11, hq]
       refine X_skip ?_
       try simp -implicitDefEqProofs only [go_sem]
       refine kJ_in ?_ ⟨true, h, rfl, rfl⟩
       exact To.mv [(1, 0)] (BaseR.refl hob) (by simp) (by decide) (by simp only [go_sem]; exact ⟨VM.refA (j := 1) (t := 0) rfl, VM.self (by simp), VM.self (by simp)⟩) ⟨⟨_, rfl, OM.box _ _ ⟨VM.self (by simp), VM.self (by simp), VM.self (by simp), VM.self (by simp), VM.self (by simp), VM.self (by simp), VM.self (by simp), VM.self (by simp), VM.self (by simp), VM.self (by simp), VM.self (by simp), VM.self (by simpa using Bd.of_rdK hv1_11), trivial⟩⟩, trivial⟩
    ·rw [if_pos f4] at h
     refine X_cond (lx_ok γ) ?_
     simp -implicitDefEqProofs only [go_sem, seval, f1, f2, f3, f4, hq]
     refine X_seq ?_
     refine X_reg (lx_ok γ) ?_
     obtain ⟨x9, f15, h⟩ := bindE h
     simp -implicitDefEqProofs only [go_sem, seval, f1, f2, f3, f4, hq]
     refine callV_eq (text_within_ok γ _  f15) rfl rfl ?_
     cases f16 : x9
     ·rw [if_neg (ne_true_of_eq_false f16)] at h
      simp -implicitDefEqProofs only [go_sem, seval, f1, f2, f3, f4, f16, hq]
      obtain rfl := Option.some.inj h
      refine X_ret ?_
      simp -implicitDefEqProofs only [go_sem, seval, f1, f2, f3, f4, f16, hq]
      exact Rt.mv0 (BaseR.refl hob) (by simp) (VM.self (by simp))
     ·rw [if_pos f16] at h
      obtain ⟨x10, f17, h⟩ := bindE h
      simp -implicitDefEqProofs only [go_sem, seval, f1, f2, f3, f4, f16, hq]
      refine callV_eq (text_within_ok γ _  f17) rfl rfl ?_
      simp -implicitDefEqProofs only [go_sem, seval, f1, f2, f3, f4, f16, hq]
      obtain rfl := Option.some.inj h
      refine X_ret ?_
      simp -implicitDefEqProofs only [go_sem, seval, f1, f2, f3, f4, f16, hq]
      exact Rt.mv0 (BaseR.refl hob) (by simp) (VM.self (by simp))
   ·rw [if_pos f3] at h
    refine X_cond (lx_ok γ) ?_
    simp -implicitDefEqProofs only [go_sem, seval, f1, f2, f3, hq]
    refine X_seq ?_
    refine X_reg (lx_ok γ) ?_
    obtain ⟨x11, f18, h⟩ := bindE h
    simp -implicitDefEqProofs only [go_sem, seval, f1, f2, f3, hq]
    refine callV_eq (text_within_ok γ _  f18) rfl rfl ?_
    simp -implicitDefEqProofs only [go_sem, seval, f1, f2, f3, hq]
    obtain rfl := Option.some.inj h
    refine X_ret ?_
    simp -implicitDefEqProofs only [go_sem, seval, f1, f2, f3, hq]
    exact Rt.mv0 (BaseR.refl hob) (by simp) (VM.self (by simp))
  ·rw [if_pos f2] at h
   refine X_cond (lx_ok γ) ?_
   simp -implicitDefEqProofs only [go_sem, seval, f1, f2, hq]
   refine X_seq ?_
   refine X_reg (lx_ok γ) ?_
   obtain ⟨x12, f19, h⟩ := bindE h
   simp -implicitDefEqProofs only [go_sem, seval, f1, f2, hq]
   refine callV_eq (text_within_ok γ _  f19) rfl rfl ?_
   cases f20 : x12
   ·rw [if_neg (ne_true_of_eq_false f20)] at h
    simp -implicitDefEqProofs only [go_sem, seval, f1, f2, f20, hq]
    obtain rfl := Option.some.inj h
    refine X_ret ?_
    simp -implicitDefEqProofs only [go_sem, seval, f1, f2, f20, hq]
    exact Rt.mv0 (BaseR.refl hob) (by simp) (VM.self (by simp))
   ·rw [if_pos f20] at h
    obtain ⟨x13, f21, h⟩ := bindE h
    simp -implicitDefEqProofs only [go_sem, seval, f1, f2, f20, hq]
    refine callV_eq (text_within_ok γ _  f21) rfl rfl ?_
    simp -implicitDefEqProofs only [go_sem, seval, f1, f2, f20, hq]
    obtain rfl := Option.some.inj h
    refine X_ret ?_
    simp -implicitDefEqProofs only [go_sem, seval, f1, f2, f20, hq]
    exact Rt.mv0 (BaseR.refl hob) (by simp) (VM.self (by simp))
 ·rw [if_pos f1] at h
  refine X_cond (lx_ok γ) ?_
  simp -implicitDefEqProofs only [go_sem, seval, f1, hq]
  refine X_seq ?_
  refine X_reg (lx_ok γ) ?_
  obtain ⟨x14, f22, h⟩ := bindE h
  simp -implicitDefEqProofs only [go_sem, seval, f1, hq]
  refine callV_eq (text_within_ok γ _  f22) rfl rfl ?_
  simp -implicitDefEqProofs only [go_sem, seval, f1, hq]
  obtain rfl := Option.some.inj h
  refine X_ret ?_
  simp -implicitDefEqProofs only [go_sem, seval, f1, hq]
  exact Rt.mv0 (BaseR.refl hob) (by simp) (VM.self (by simp))
end Go.Pf
end
section
set_option maxRecDepth 100000
namespace Go.Pf
open Go Go.Ab Go.Pp Go.Proofs Go.Proofs.S19
attribute [local go_sem] Lxτ Lxγ gam0 Int.toNat_natCast tau3 tau4 tau5 tau9 tau28 tau46 tau47 tau49 tau56 tau61 tau86 eI eB eS e_Loc e_Mins e_Text e_text_room e_text_reader e_portolanref19_reader
set_option maxHeartbeats 1000000 in
theorem text_room_may_ok (γ : GT) (ob : OT) {a0 : text_room} {a1 : Mins} {v1_11 : V} (hv1_11 : rdK (getO ob) 2 v1_11 = some (List.map e_Loc a1.Args)) {r : Bool} (h : text_room_may a0 a1 = some r) :
  Valid (Lx γ) 37 [V.agg [vint .i64 a0.from_, vint .i64 a0.to_, vint .i64 a0.slots, vint .i64 a0.funcs], V.agg [vint .i64 a1.Op, vint .i64 a1.D.Kind, vint .i64 a1.D.N, vint .i64 a1.A.Kind, vint .i64 a1.A.N, vint .i64 a1.B.Kind, vint .i64 a1.B.N, vint .i64 a1.C.Kind, vint .i64 a1.C.N, vint .i64 a1.N, vint .i64 a1.M, v1_11]] ob (vbool r) ob := by
 refine valid_X (lx_ok γ) (fn := Tryd.f37) (rs := [.tmp 4]) Tryd.func37 (by kernel_rfl) rfl rfl Tryd.ntmps37 rfl (by simp) fun hb hob => ?_
 have hq := rd4 hv1_11
 rw [text_room_may] at h
 refine X_seq ?_
 refine X_reg (lx_ok γ) ?_
 simp -implicitDefEqProofs only [go_sem, seval, hq]
 refine X_seq ?_
 refine X_reg (lx_ok γ) ?_
 obtain ⟨x1, f1, h⟩ := bindE h
 simp -implicitDefEqProofs only [go_sem, seval, hq]
 refine callV_eq (text_Parts_ok γ _  f1) rfl rfl ?_
 simp -implicitDefEqProofs only [go_sem, seval, hq]
 refine X_seq ?_
 refine X_seq ?_
 refine X_jq (J := fun as1 ob1 => ∃ (x3 : Bool), text_room_may.j1 a0 a1 x1 x3 = some r ∧ [(2, V.ref ob.length 0), (3, V.ref (ob.length + 1) 0), (5, V.ref (ob.length + 2) 0), (31, vbool x3)] = as1 ∧ ob ++ [some (O.box [vint .i64 a0.from_, vint .i64 a0.to_, vint .i64 a0.slots, vint .i64 a0.funcs]), some (O.box [vint .i64 a1.Op, vint .i64 a1.D.Kind, vint .i64 a1.D.N, vint .i64 a1.A.Kind, vint .i64 a1.A.N, vint .i64 a1.B.Kind, vint .i64 a1.B.N, vint .i64 a1.C.Kind, vint .i64 a1.C.N, vint .i64 a1.N, vint .i64 a1.M, v1_11]), some (O.box [vstr x1.1])] = ob1) ?_ ?_
 ·rintro as1 ob1 ⟨x3, h, rfl, rfl⟩
  rw [text_room_may.j1] at h
  simp -implicitDefEqProofs only [go_sem, seval, hq]
  cases f2 : x3
  ·rw [if_neg (ne_true_of_eq_false f2)] at h
   refine X_cond (lx_ok γ) ?_
   simp -implicitDefEqProofs only [go_sem, seval, f2, hq]
   refine X_skip ?_
   try simp -implicitDefEqProofs only [go_sem]
   refine X_seq ?_
   refine X_seq ?_
   refine X_reg (lx_ok γ) ?_
   simp -implicitDefEqProofs only [go_sem, seval, f2, hq]
   refine X_jq (J := fun as1 ob1 => text_room_may.k1 a0 a1 x1 = some r ∧ [(2, V.ref ob.length 0), (3, V.ref (ob.length + 1) 0), (5, V.ref (ob.length + 2) 0)] = as1 ∧ ob ++ [some (O.box [vint .i64 a0.from_, vint .i64 a0.to_, vint .i64 a0.slots, vint .i64 a0.funcs]), some (O.box [vint .i64 a1.Op, vint .i64 a1.D.Kind, vint .i64 a1.D.N, vint .i64 a1.A.Kind, vint .i64 a1.A.N, vint .i64 a1.B.Kind, vint .i64 a1.B.N, vint .i64 a1.C.Kind, vint .i64 a1.C.N, vint .i64 a1.N, vint .i64 a1.M, v1_11]), some (O.box [vstr x1.1])] = ob1) ?_ ?_
   ·rintro as1 ob1 ⟨h, rfl, rfl⟩
    rw [text_room_may.k1] at h
    simp -implicitDefEqProofs only [go_sem, seval, f2, hq]
    refine X_seq ?_
    refine X_reg (lx_ok γ) ?_
    simp -implicitDefEqProofs only [go_sem, seval, f2, hq]
    refine X_seq ?_
    refine X_reg (lx_ok γ) ?_
    obtain ⟨x5, f3, h⟩ := bindE h
    simp -implicitDefEqProofs only [go_sem, seval, f2, hq]
    refine callV_eq (text_room_may_2_ok γ _ (by simp -implicitDefEqProofs only [go_sem, seval, f2, hq]; try rfl) f3) rfl rfl ?_
    cases f4 : x5
    ·rw [if_neg (ne_true_of_eq_false f4)] at h
     obtain ⟨x6, f5, h⟩ := bindE h
     simp -implicitDefEqProofs only [go_sem, seval, f2, f4, hq]
     refine callV_eq (text_room_may_2_ok γ _ (by simp -implicitDefEqProofs only [go_sem, seval, f2, f4, hq]; try rfl) f5) rfl rfl ?_
     cases f6 : x6
     ·rw [if_neg (ne_true_of_eq_false f6)] at h
      obtain ⟨x7, f7, h⟩ := bindE h
      simp -implicitDefEqProofs only [go_sem, seval, f2, f4, f6, hq]
      refine callV_eq (text_room_may_2_ok γ _ (by simp -implicitDefEqProofs only [go_sem, seval, f2, f4, f6, hq]; try rfl) f7) rfl rfl ?_
      cases f8 : x7
      ·rw [if_neg (ne_true_of_eq_false f8)] at h
       obtain ⟨x8, f9, h⟩ := bindE h
       simp -implicitDefEqProofs only [go_sem, seval, f2, f4, f6, f8, hq]
       refine callV_eq (text_room_numbers_ok γ _ (by first | exact rdK_app hv1_11 | exact hv1_11) f9) rfl rfl ?_
       simp -implicitDefEqProofs only [go_sem, seval, f2, f4, f6, f8, hq]
       obtain rfl := Option.some.inj h
       refine X_ret ?_
       simp -implicitDefEqProofs only [go_sem, seval, f2, f4, f6, f8, hq]
       exact Rt.mv0 (BaseR.refl hob) (by simp) (VM.self (by simp))
      ·rw [if_pos f8] at h
       simp -implicitDefEqProofs only [go_sem, seval, f2, f4, f6, f8, hq]
       obtain rfl := Option.some.inj h
       refine X_ret ?_
       simp -implicitDefEqProofs only [go_sem, seval, f2, f4, f6, f8, hq]
       exact Rt.mv0 (BaseR.refl hob) (by simp) (VM.self (by simp))
     ·rw [if_pos f6] at h
      simp -implicitDefEqProofs only [go_sem, seval, f2, f4, f6, hq]
      obtain rfl := Option.some.inj h
      refine X_ret ?_
      simp -implicitDefEqProofs only [go_sem, seval, f2, f4, f6, hq]
      exact Rt.mv0 (BaseR.refl hob) (by simp) (VM.self (by simp))
    ·rw [if_pos f4] at h
     simp -implicitDefEqProofs only [go_sem, seval, f2, f4, hq]
     obtain rfl := Option.some.inj h
     refine X_ret ?_
     simp -implicitDefEqProofs only [go_sem, seval, f2, f4, hq]
     exact Rt.mv0 (BaseR.refl hob) (by simp) (VM.self (by simp))
   ·refine X_block ?_
    obtain ⟨lr1, hl1, hk1, hr1⟩ := aft2 h
    refine X_forN hl1 (fun (i1 : Nat) (s : Unit) as1 ob1 => [(2, V.ref ob.length 0), (3, V.ref (ob.length + 1) 0), (5, V.ref (ob.length + 2) 0), (33, V.tr (.sl 1 false (List.map (eI .u8) [68, 65, 66, 67]))), (34, vint .i64 4), (35, vint .i64 (i1 : Int))] = as1 ∧ ob ++ [some (O.box [vint .i64 a0.from_, vint .i64 a0.to_, vint .i64 a0.slots, vint .i64 a0.funcs]), some (O.box [vint .i64 a1.Op, vint .i64 a1.D.Kind, vint .i64 a1.D.N, vint .i64 a1.A.Kind, vint .i64 a1.A.N, vint .i64 a1.B.Kind, vint .i64 a1.B.N, vint .i64 a1.C.Kind, vint .i64 a1.C.N, vint .i64 a1.N, vint .i64 a1.M, v1_11]), some (O.box [vstr x1.1])] = ob1) ⟨_, _, ?_, rfl, rfl⟩ ?_ ?_
    ·exact To.mv [(0, 0), (1, 0), (2, 0)] (BaseR.refl hob) (by simp) (by decide) (by simp only [go_sem]; exact ⟨VM.refA (j := 0) (t := 0) rfl, VM.refA (j := 1) (t := 1) rfl, VM.refA (j := 2) (t := 2) rfl, VM.self (by simp), VM.self (by simp), VM.eqv (by simp) (by simp)⟩) ⟨⟨_, rfl, OM.box _ _ ⟨VM.self (by simp), VM.self (by simp), VM.self (by simp), VM.self (by simp), trivial⟩⟩, ⟨_, rfl, OM.box _ _ ⟨VM.self (by simp), VM.self (by simp), VM.self (by simp), VM.self (by simp), VM.self (by simp), VM.self (by simp), VM.self (by simp), VM.self (by simp), VM.self (by simp), VM.self (by simp), VM.self (by simp), VM.self (by simpa using Bd.of_rdK hv1_11), trivial⟩⟩, ⟨_, rfl, OM.box _ _ ⟨VM.self (by simp), trivial⟩⟩, trivial⟩
    ·rintro i1 _ o1 hi1 hw1 h ho1 as1 ob1 ⟨rfl, rfl⟩
     rw [text_room_may.b1] at h
     refine X_seq ?_
     refine X_reg (lx_ok γ) ?_
     simp -implicitDefEqProofs only [go_sem, seval, f2, hi1, hq]
     refine X_seq ?_
     refine X_cond (lx_ok γ) ?_
     simp -implicitDefEqProofs only [go_sem, seval, f2, hi1, hq]
     refine X_skip ?_
     try simp -implicitDefEqProofs only [go_sem]
     refine X_seq ?_
     refine X_block ?_
     refine X_seq ?_
     refine X_reg (lx_ok γ) ?_
     obtain ⟨x9, f10, h⟩ := bindE h
     obtain ⟨f11, f12⟩ := ixL_nat f10
     have f13 : (0 : Int) ≤ (i1 : Int) := Int.natCast_nonneg _
     have f14 : (List.map (eI .u8) [68, 65, 66, 67])[i1]? = some ((eI .u8) x9) := by rw [List.getElem?_map, f12]; rfl
     try simp -implicitDefEqProofs only [go_sem] at f14
     have f15 : (i1 : Int) < 4 := by have := f11; simp at this; omega
     simp -implicitDefEqProofs only [go_sem, seval, f2, hi1, hq, f11, f12, f13, f14, f15]
     refine X_seq ?_
     refine X_reg (lx_ok γ) ?_
     cases f16 : (x9 == 68)
     ·rw [if_neg (ne_true_of_eq_false f16)] at h
      cases f17 : (x9 == 65)
      ·rw [if_neg (ne_true_of_eq_false f17)] at h
       cases f18 : (x9 == 66)
       ·rw [if_neg (ne_true_of_eq_false f18)] at h
        have f19 : text_loc a1 x9 = some 7 := by simp only [text_loc, f2, hi1, f16, f17, f18, if_true, if_false, Bool.false_eq_true]
        simp -implicitDefEqProofs only [go_sem, seval, f2, hi1, f16, f17, f18, hq]
        refine callV_eq (text_loc_ok γ _ (by simp -implicitDefEqProofs only [go_sem, seval, f2, hi1, hq]; try rfl) f19) rfl rfl ?_
        simp -implicitDefEqProofs only [go_sem, seval, f2, hi1, f16, f17, f18, hq]
        refine X_seq ?_
        refine X_reg (lx_ok γ) ?_
        obtain ⟨x10, f20, h⟩ := bindE h
        simp -implicitDefEqProofs only [go_sem, seval, f2, hi1, f16, f17, f18, hq]
        refine callV_eq (strings_IndexByte_ok γ _  f20) rfl rfl ?_
        simp -implicitDefEqProofs only [go_sem, seval, f2, hi1, f16, f17, f18, hq]
        refine X_seq ?_
        refine X_reg (lx_ok γ) ?_
        cases f21 : decide (0 ≤ x10)
        ·rw [if_neg (ne_true_of_eq_false f21)] at h
         simp -implicitDefEqProofs only [go_sem, seval, f2, hi1, f16, f17, f18, f21, hq]
         cases f22 : decide (a1.C.Kind = 0) && decide (a1.C.N = 0)
         ·rw [if_neg (ne_true_of_eq_false f22)] at h
          refine X_cond (lx_ok γ) ?_
          simp -implicitDefEqProofs only [go_sem, seval, f2, hi1, f16, f17, f18, f21, f22, hq]
          refine X_seq ?_
          refine X_reg (lx_ok γ) ?_
          simp -implicitDefEqProofs only [go_sem, seval, f2, hi1, f16, f17, f18, f21, f22, hq]
          obtain rfl := Option.some.inj h
          have h := hr1 _ (ho1 (fun _ hs => nomatch hs))
          obtain rfl := Option.some.inj h
          refine X_ret ?_
          simp -implicitDefEqProofs only [go_sem, seval, f2, hi1, f16, f17, f18, f21, f22, hq]
          exact Rt.mv0 (BaseR.refl hob) (by simp) (VM.self (by simp))
         ·rw [if_pos f22] at h
          refine X_cond (lx_ok γ) ?_
          simp -implicitDefEqProofs only [go_sem, seval, f2, hi1, f16, f17, f18, f21, f22, hq]
          refine X_skip ?_
          try simp -implicitDefEqProofs only [go_sem]
          refine X_reg (lx_ok γ) ?_
          obtain rfl := Option.some.inj h
          simp -implicitDefEqProofs only [go_sem, seval, f2, hi1, f16, f17, f18, f21, f22, hq]
          refine kR_in rfl ?_ ⟨rfl, rfl⟩
          exact To.mv [(0, 0), (1, 0), (2, 0)] (BaseR.refl hob) (by simp) (by decide) (by simp only [go_sem]; exact ⟨VM.refA (j := 0) (t := 0) rfl, VM.refA (j := 1) (t := 1) rfl, VM.refA (j := 2) (t := 2) rfl, VM.self (by simp), VM.self (by simp), VM.eqv (by rw [hw1]) (by simp)⟩) ⟨⟨_, rfl, OM.box _ _ ⟨VM.self (by simp), VM.self (by simp), VM.self (by simp), VM.self (by simp), trivial⟩⟩, ⟨_, rfl, OM.box _ _ ⟨VM.self (by simp), VM.self (by simp), VM.self (by simp), VM.self (by simp), VM.self (by simp), VM.self (by simp), VM.self (by simp), VM.self (by simp), VM.self (by simp), VM.self (by simp), VM.self (by simp), VM.self (by simpa using Bd.of_rdK hv1_11), trivial⟩⟩, ⟨_, rfl, OM.box _ _ ⟨VM.self (by simp), trivial⟩⟩, trivial⟩
        ·rw [if_pos f21] at h
         obtain ⟨x11, f23, h⟩ := bindE h
         simp -implicitDefEqProofs only [go_sem, seval, f2, hi1, f16, f17, f18, f21, hq]
         refine callV_eq (text_room_in_ok γ _  f23) rfl rfl ?_
         cases f24 : x11
         ·rw [if_neg (ne_true_of_eq_false f24)] at h
          simp -implicitDefEqProofs only [go_sem, seval, f2, hi1, f16, f17, f18, f21, f24, hq]
          refine X_condT (lx_ok γ) rfl ?_
          refine X_seq ?_
          refine X_reg (lx_ok γ) ?_
          simp -implicitDefEqProofs only [go_sem, seval, f2, hi1, f16, f17, f18, f21, f24, hq]
          obtain rfl := Option.some.inj h
          have h := hr1 _ (ho1 (fun _ hs => nomatch hs))
          obtain rfl := Option.some.inj h
          refine X_ret ?_
          simp -implicitDefEqProofs only [go_sem, seval, f2, hi1, f16, f17, f18, f21, f24, hq]
          exact Rt.mv0 (BaseR.refl hob) (by simp) (VM.self (by simp))
         ·rw [if_pos f24] at h
          simp -implicitDefEqProofs only [go_sem, seval, f2, hi1, f16, f17, f18, f21, f24, hq]
          refine X_condF (lx_ok γ) rfl ?_
          refine X_skip ?_
          try simp -implicitDefEqProofs only [go_sem]
          refine X_reg (lx_ok γ) ?_
          obtain rfl := Option.some.inj h
          simp -implicitDefEqProofs only [go_sem, seval, f2, hi1, f16, f17, f18, f21, f24, hq]
          refine kR_in rfl ?_ ⟨rfl, rfl⟩
          exact To.mv [(0, 0), (1, 0), (2, 0)] (BaseR.refl hob) (by simp) (by decide) (by simp only [go_sem]; exact ⟨VM.refA (j := 0) (t := 0) rfl, VM.refA (j := 1) (t := 1) rfl, VM.refA (j := 2) (t := 2) rfl, VM.self (by simp), VM.self (by simp), VM.eqv (by rw [hw1]) (by simp)⟩) ⟨⟨_, rfl, OM.box _ _ ⟨VM.self (by simp), VM.self (by simp), VM.self (by simp), VM.self (by simp), trivial⟩⟩, ⟨_, rfl, OM.box _ _ ⟨VM.self (by simp), VM.self (by simp), VM.self (by simp), VM.self (by simp), VM.self (by simp), VM.self (by simp), VM.self (by simp), VM.self (by simp), VM.self (by simp), VM.self (by simp), VM.self (by simp), VM.self (by simpa using Bd.of_rdK hv1_11), trivial⟩⟩, ⟨_, rfl, OM.box _ _ ⟨VM.self (by simp), trivial⟩⟩, trivial⟩
       ·rw [if_pos f18] at h
        have f25 : text_loc a1 x9 = some 5 := by simp only [text_loc, f2, hi1, f16, f17, f18, if_true, if_false, Bool.false_eq_true]
        simp -implicitDefEqProofs only [go_sem, seval, f2, hi1, f16, f17, f18, hq]
        refine callV_eq (text_loc_ok γ _ (by simp -implicitDefEqProofs only [go_sem, seval, f2, hi1, hq]; try rfl) f25) rfl rfl ?_
        simp -implicitDefEqProofs only [go_sem, seval, f2, hi1, f16, f17, f18, hq]
        refine X_seq ?_
        refine X_reg (lx_ok γ) ?_
        obtain ⟨x12, f26, h⟩ := bindE h
        simp -implicitDefEqProofs only [go_sem, seval, f2, hi1, f16, f17, f18, hq]
        refine callV_eq (strings_IndexByte_ok γ _  f26) rfl rfl ?_
        simp -implicitDefEqProofs only [go_sem, seval, f2, hi1, f16, f17, f18, hq]
        refine X_seq ?_
        refine X_reg (lx_ok γ) ?_
        cases f27 : decide (0 ≤ x12)
        ·rw [if_neg (ne_true_of_eq_false f27)] at h
         simp -implicitDefEqProofs only [go_sem, seval, f2, hi1, f16, f17, f18, f27, hq]
         cases f28 : decide (a1.B.Kind = 0) && decide (a1.B.N = 0)
         ·rw [if_neg (ne_true_of_eq_false f28)] at h
          refine X_cond (lx_ok γ) ?_
          simp -implicitDefEqProofs only [go_sem, seval, f2, hi1, f16, f17, f18, f27, f28, hq]
          refine X_seq ?_
          refine X_reg (lx_ok γ) ?_
          simp -implicitDefEqProofs only [go_sem, seval, f2, hi1, f16, f17, f18, f27, f28, hq]
          obtain rfl := Option.some.inj h
          have h := hr1 _ (ho1 (fun _ hs => nomatch hs))
          obtain rfl := Option.some.inj h
          refine X_ret ?_
          simp -implicitDefEqProofs only [go_sem, seval, f2, hi1, f16, f17, f18, f27, f28, hq]
          exact Rt.mv0 (BaseR.refl hob) (by simp) (VM.self (by simp))
         ·rw [if_pos f28] at h
          refine X_cond (lx_ok γ) ?_
          simp -implicitDefEqProofs only [go_sem, seval, f2, hi1, f16, f17, f18, f27, f28, hq]
          refine X_skip ?_
          try simp -implicitDefEqProofs only [go_sem]
          refine X_reg (lx_ok γ) ?_
          obtain rfl := Option.some.inj h
          simp -implicitDefEqProofs only [go_sem, seval, f2, hi1, f16, f17, f18, f27, f28, hq]
          refine kR_in rfl ?_ ⟨rfl, rfl⟩
          exact To.mv [(0, 0), (1, 0), (2, 0)] (BaseR.refl hob) (by simp) (by decide) (by simp only [go_sem]; exact ⟨VM.refA (j := 0) (t := 0) rfl, VM.refA (j := 1) (t := 1) rfl, VM.refA (j := 2) (t := 2) rfl, VM.self (by simp), VM.self (by simp), VM.eqv (by rw [hw1]) (by simp)⟩) ⟨⟨_, rfl, OM.box _ _ ⟨VM.self (by simp), VM.self (by simp), VM.self (by simp), VM.self (by simp), trivial⟩⟩, ⟨_, rfl, OM.box _ _ ⟨VM.self (by simp), VM.self (by simp), VM.self (by simp), VM.self (by simp), VM.self (by simp), VM.self (by simp), VM.self (by simp), VM.self (by simp), VM.self (by simp), VM.self (by simp), VM.self (by simp), VM.self (by simpa using Bd.of_rdK hv1_11), trivial⟩⟩, ⟨_, rfl, OM.box _ _ ⟨VM.self (by simp), trivial⟩⟩, trivial⟩
        ·rw [if_pos f27] at h
         obtain ⟨x13, f29, h⟩ := bindE h
         simp -implicitDefEqProofs only [go_sem, seval, f2, hi1, f16, f17, f18, f27, hq]
         refine callV_eq (text_room_in_ok γ _  f29) rfl rfl ?_
         cases f30 : x13
         ·rw [if_neg (ne_true_of_eq_false f30)] at h
          simp -implicitDefEqProofs only [go_sem, seval, f2, hi1, f16, f17, f18, f27, f30, hq]
          refine X_condT (lx_ok γ) rfl ?_
          refine X_seq ?_
          refine X_reg (lx_ok γ) ?_
          simp -implicitDefEqProofs only [go_sem, seval, f2, hi1, f16, f17, f18, f27, f30, hq]
          obtain rfl := Option.some.inj h
          have h := hr1 _ (ho1 (fun _ hs => nomatch hs))
          obtain rfl := Option.some.inj h
          refine X_ret ?_
          simp -implicitDefEqProofs only [go_sem, seval, f2, hi1, f16, f17, f18, f27, f30, hq]
          exact Rt.mv0 (BaseR.refl hob) (by simp) (VM.self (by simp))
         ·rw [if_pos f30] at h
          simp -implicitDefEqProofs only [go_sem, seval, f2, hi1, f16, f17, f18, f27, f30, hq]
          refine X_condF (lx_ok γ) rfl ?_
          refine X_skip ?_
          try simp -implicitDefEqProofs only [go_sem]
          refine X_reg (lx_ok γ) ?_
          obtain rfl := Option.some.inj h
          simp -implicitDefEqProofs only [go_sem, seval, f2, hi1, f16, f17, f18, f27, f30, hq]
          refine kR_in rfl ?_ ⟨rfl, rfl⟩
          exact To.mv [(0, 0), (1, 0), (2, 0)] (BaseR.refl hob) (by simp) (by decide) (by simp only [go_sem]; exact ⟨VM.refA (j := 0) (t := 0) rfl, VM.refA (j := 1) (t := 1) rfl, VM.refA (j := 2) (t := 2) rfl, VM.self (by simp), VM.self (by simp), VM.eqv (by rw [hw1]) (by simp)⟩) ⟨⟨_, rfl, OM.box _ _ ⟨VM.self (by simp), VM.self (by simp), VM.self (by simp), VM.self (by simp), trivial⟩⟩, ⟨_, rfl, OM.box _ _ ⟨VM.self (by simp), VM.self (by simp), VM.self (by simp), VM.self (by simp), VM.self (by simp), VM.self (by simp), VM.self (by simp), VM.self (by simp), VM.self (by simp), VM.self (by simp), VM.self (by simp), VM.self (by simpa using Bd.of_rdK hv1_11), trivial⟩⟩, ⟨_, rfl, OM.box _ _ ⟨VM.self (by simp), trivial⟩⟩, trivial⟩
      ·rw [if_pos f17] at h
       have f31 : text_loc a1 x9 = some 3 := by simp only [text_loc, f2, hi1, f16, f17, if_true, if_false, Bool.false_eq_true]
       simp -implicitDefEqProofs only [go_sem, seval, f2, hi1, f16, f17, hq]
       refine callV_eq (text_loc_ok γ _ (by simp -implicitDefEqProofs only [go_sem, seval, f2, hi1, hq]; try rfl) f31) rfl rfl ?_
       simp -implicitDefEqProofs only [go_sem, seval, f2, hi1, f16, f17, hq]
       refine X_seq ?_
       refine X_reg (lx_ok γ) ?_
       obtain ⟨x14, f32, h⟩ := bindE h
       simp -implicitDefEqProofs only [go_sem, seval, f2, hi1, f16, f17, hq]
       refine callV_eq (strings_IndexByte_ok γ _  f32) rfl rfl ?_
       simp -implicitDefEqProofs only [go_sem, seval, f2, hi1, f16, f17, hq]
       refine X_seq ?_
       refine X_reg (lx_ok γ) ?_
       cases f33 : decide (0 ≤ x14)
       ·rw [if_neg (ne_true_of_eq_false f33)] at h
        simp -implicitDefEqProofs only [go_sem, seval, f2, hi1, f16, f17, f33, hq]
        cases f34 : decide (a1.A.Kind = 0) && decide (a1.A.N = 0)
        ·rw [if_neg (ne_true_of_eq_false f34)] at h
         refine X_cond (lx_ok γ) ?_
         simp -implicitDefEqProofs only [go_sem, seval, f2, hi1, f16, f17, f33, f34, hq]
         refine X_seq ?_
         refine X_reg (lx_ok γ) ?_
         simp -implicitDefEqProofs only [go_sem, seval, f2, hi1, f16, f17, f33, f34, hq]
         obtain rfl := Option.some.inj h
         have h := hr1 _ (ho1 (fun _ hs => nomatch hs))
         obtain rfl := Option.some.inj h
         refine X_ret ?_
         simp -implicitDefEqProofs only [go_sem, seval, f2, hi1, f16, f17, f33, f34, hq]
         exact Rt.mv0 (BaseR.refl hob) (by simp) (VM.self (by simp))
        ·rw [if_pos f34] at h
         refine X_cond (lx_ok γ) ?_
         simp -implicitDefEqProofs only [go_sem, seval, f2, hi1, f16, f17, f33, f34, hq]
         refine X_skip ?_
         try simp -implicitDefEqProofs only [go_sem]
         refine X_reg (lx_ok γ) ?_
         obtain rfl := Option.some.inj h
         simp -implicitDefEqProofs only [go_sem, seval, f2, hi1, f16, f17, f33, f34, hq]
         refine kR_in rfl ?_ ⟨rfl, rfl⟩
         exact To.mv [(0, 0), (1, 0), (2, 0)] (BaseR.refl hob) (by simp) (by decide) (by simp only [go_sem]; exact ⟨VM.refA (j := 0) (t := 0) rfl, VM.refA (j := 1) (t := 1) rfl, VM.refA (j := 2) (t := 2) rfl, VM.self (by simp), VM.self (by simp), VM.eqv (by rw [hw1]) (by simp)⟩) ⟨⟨_, rfl, OM.box _ _ ⟨VM.self (by simp), VM.self (by simp), VM.self (by simp), VM.self (by simp), trivial⟩⟩, ⟨_, rfl, OM.box _ _ ⟨VM.self (by simp), VM.self (by simp), VM.self (by simp), VM.self (by simp), VM.self (by simp), VM.self (by simp), VM.self (by simp), VM.self (by simp), VM.self (by simp), VM.self (by simp), VM.self (by simp), VM.self (by simpa using Bd.of_rdK hv1_11), trivial⟩⟩, ⟨_, rfl, OM.box _ _ ⟨VM.self (by simp), trivial⟩⟩, trivial⟩
       ·rw [if_pos f33] at h
        obtain ⟨x15, f35, h⟩ := bindE h
        simp -implicitDefEqProofs only [go_sem, seval, f2, hi1, f16, f17, f33, hq]
        refine callV_eq (text_room_in_ok γ _  f35) rfl rfl ?_
        cases f36 : x15
        ·rw [if_neg (ne_true_of_eq_false f36)] at h
         simp -implicitDefEqProofs only [go_sem, seval, f2, hi1, f16, f17, f33, f36, hq]
         refine X_condT (lx_ok γ) rfl ?_
         refine X_seq ?_
         refine X_reg (lx_ok γ) ?_
         simp -implicitDefEqProofs only [go_sem, seval, f2, hi1, f16, f17, f33, f36, hq]
         obtain rfl := Option.some.inj h
         have h := hr1 _ (ho1 (fun _ hs => nomatch hs))
         obtain rfl := Option.some.inj h
         refine X_ret ?_
         simp -implicitDefEqProofs only [go_sem, seval, f2, hi1, f16, f17, f33, f36, hq]
         exact Rt.mv0 (BaseR.refl hob) (by simp) (VM.self (by simp))
        ·rw [if_pos f36] at h
         simp -implicitDefEqProofs only [go_sem, seval, f2, hi1, f16, f17, f33, f36, hq]
         refine X_condF (lx_ok γ) rfl ?_
         refine X_skip ?_
         try simp -implicitDefEqProofs only [go_sem]
         refine X_reg (lx_ok γ) ?_
         obtain rfl := Option.some.inj h
         simp -implicitDefEqProofs only [go_sem, seval, f2, hi1, f16, f17, f33, f36, hq]
         refine kR_in rfl ?_ ⟨rfl, rfl⟩
         exact To.mv [(0, 0), (1, 0), (2, 0)] (BaseR.refl hob) (by simp) (by decide) (by simp only [go_sem]; exact ⟨VM.refA (j := 0) (t := 0) rfl, VM.refA (j := 1) (t := 1) rfl, VM.refA (j := 2) (t := 2) rfl, VM.self (by simp), VM.self (by simp), VM.eqv (by rw [hw1]) (by simp)⟩) ⟨⟨_, rfl, OM.box _ _ ⟨VM.self (by simp), VM.self (by simp), VM.self (by simp), VM.self (by simp), trivial⟩⟩, ⟨_, rfl, OM.box _ _ ⟨VM.self (by simp), VM.self (by simp), VM.self (by simp), VM.self (by simp), VM.self (by simp), VM.self (by simp), VM.self (by simp), VM.self (by simp), VM.self (by simp), VM.self (by simp), VM.self (by simp), VM.self (by simpa using Bd.of_rdK hv1_11), trivial⟩⟩, ⟨_, rfl, OM.box _ _ ⟨VM.self (by simp), trivial⟩⟩, trivial⟩
     ·rw [if_pos f16] at h
      have f37 : text_loc a1 x9 = some 1 := by simp only [text_loc, f2, hi1, f16, if_true, if_false, Bool.false_eq_true]
      simp -implicitDefEqProofs only [go_sem, seval, f2, hi1, f16, hq]
      refine callV_eq (text_loc_ok γ _ (by simp -implicitDefEqProofs only [go_sem, seval, f2, hi1, hq]; try rfl) f37) rfl rfl ?_
      simp -implicitDefEqProofs only [go_sem, seval, f2, hi1, f16, hq]
      refine X_seq ?_
      refine X_reg (lx_ok γ) ?_
      obtain ⟨x16, f38, h⟩ := bindE h
      simp -implicitDefEqProofs only [go_sem, seval, f2, hi1, f16, hq]
      refine callV_eq (strings_IndexByte_ok γ _  f38) rfl rfl ?_
      simp -implicitDefEqProofs only [go_sem, seval, f2, hi1, f16, hq]
      refine X_seq ?_
      refine X_reg (lx_ok γ) ?_
      cases f39 : decide (0 ≤ x16)
      ·rw [if_neg (ne_true_of_eq_false f39)] at h
       simp -implicitDefEqProofs only [go_sem, seval, f2, hi1, f16, f39, hq]
       cases f40 : decide (a1.D.Kind = 0) && decide (a1.D.N = 0)
       ·rw [if_neg (ne_true_of_eq_false f40)] at h
        refine X_cond (lx_ok γ) ?_
        simp -implicitDefEqProofs only [go_sem, seval, f2, hi1, f16, f39, f40, hq]
        refine X_seq ?_
        refine X_reg (lx_ok γ) ?_
        simp -implicitDefEqProofs only [go_sem, seval, f2, hi1, f16, f39, f40, hq]
        obtain rfl := Option.some.inj h
        have h := hr1 _ (ho1 (fun _ hs => nomatch hs))
        obtain rfl := Option.some.inj h
        refine X_ret ?_
        simp -implicitDefEqProofs only [go_sem, seval, f2, hi1, f16, f39, f40, hq]
        exact Rt.mv0 (BaseR.refl hob) (by simp) (VM.self (by simp))
       ·rw [if_pos f40] at h
        refine X_cond (lx_ok γ) ?_
        simp -implicitDefEqProofs only [go_sem, seval, f2, hi1, f16, f39, f40, hq]
        refine X_skip ?_
        try simp -implicitDefEqProofs only [go_sem]
        refine X_reg (lx_ok γ) ?_
        obtain rfl := Option.some.inj h
        simp -implicitDefEqProofs only [go_sem, seval, f2, hi1, f16, f39, f40, hq]
        refine kR_in rfl ?_ ⟨rfl, rfl⟩
        exact To.mv [(0, 0), (1, 0), (2, 0)] (BaseR.refl hob) (by simp) (by decide) (by simp only [go_sem]; exact ⟨VM.refA (j := 0) (t := 0) rfl, VM.refA (j := 1) (t := 1) rfl, VM.refA (j := 2) (t := 2) rfl, VM.self (by simp), VM.self (by simp), VM.eqv (by rw [hw1]) (by simp)⟩) ⟨⟨_, rfl, OM.box _ _ ⟨VM.self (by simp), VM.self (by simp), VM.self (by simp), VM.self (by simp), trivial⟩⟩, ⟨_, rfl, OM.box _ _ ⟨VM.self (by simp), VM.self (by simp), VM.self (by simp), VM.self (by simp), VM.self (by simp), VM.self (by simp), VM.self (by simp), VM.self (by simp), VM.self (by simp), VM.self (by simp), VM.self (by simp), VM.self (by simpa using Bd.of_rdK hv1_11), trivial⟩⟩, ⟨_, rfl, OM.box _ _ ⟨VM.self (by simp), trivial⟩⟩, trivial⟩
      ·rw [if_pos f39] at h
       obtain ⟨x17, f41, h⟩ := bindE h
       simp -implicitDefEqProofs only [go_sem, seval, f2, hi1, f16, f39, hq]
       refine callV_eq (text_room_in_ok γ _  f41) rfl rfl ?_
       cases f42 : x17
       ·rw [if_neg (ne_true_of_eq_false f42)] at h
        simp -implicitDefEqProofs only [go_sem, seval, f2, hi1, f16, f39, f42, hq]
        refine X_condT (lx_ok γ) rfl ?_
        refine X_seq ?_
        refine X_reg (lx_ok γ) ?_
        simp -implicitDefEqProofs only [go_sem, seval, f2, hi1, f16, f39, f42, hq]
        obtain rfl := Option.some.inj h
        have h := hr1 _ (ho1 (fun _ hs => nomatch hs))
        obtain rfl := Option.some.inj h
        refine X_ret ?_
        simp -implicitDefEqProofs only [go_sem, seval, f2, hi1, f16, f39, f42, hq]
        exact Rt.mv0 (BaseR.refl hob) (by simp) (VM.self (by simp))
       ·rw [if_pos f42] at h
        simp -implicitDefEqProofs only [go_sem, seval, f2, hi1, f16, f39, f42, hq]
        refine X_condF (lx_ok γ) rfl ?_
        refine X_skip ?_
        try simp -implicitDefEqProofs only [go_sem]
        refine X_reg (lx_ok γ) ?_
        obtain rfl := Option.some.inj h
        simp -implicitDefEqProofs only [go_sem, seval, f2, hi1, f16, f39, f42, hq]
        refine kR_in rfl ?_ ⟨rfl, rfl⟩
        exact To.mv [(0, 0), (1, 0), (2, 0)] (BaseR.refl hob) (by simp) (by decide) (by simp only [go_sem]; exact ⟨VM.refA (j := 0) (t := 0) rfl, VM.refA (j := 1) (t := 1) rfl, VM.refA (j := 2) (t := 2) rfl, VM.self (by simp), VM.self (by simp), VM.eqv (by rw [hw1]) (by simp)⟩) ⟨⟨_, rfl, OM.box _ _ ⟨VM.self (by simp), VM.self (by simp), VM.self (by simp), VM.self (by simp), trivial⟩⟩, ⟨_, rfl, OM.box _ _ ⟨VM.self (by simp), VM.self (by simp), VM.self (by simp), VM.self (by simp), VM.self (by simp), VM.self (by simp), VM.self (by simp), VM.self (by simp), VM.self (by simp), VM.self (by simp), VM.self (by simp), VM.self (by simpa using Bd.of_rdK hv1_11), trivial⟩⟩, ⟨_, rfl, OM.box _ _ ⟨VM.self (by simp), trivial⟩⟩, trivial⟩
    ·rintro i1 _ hi1 hn1 as1 ob1 ⟨rfl, rfl⟩
     refine X_seq ?_
     refine X_reg (lx_ok γ) ?_
     simp -implicitDefEqProofs only [go_sem, seval, f2, hi1, hq]
     refine X_seq ?_
     refine X_cond (lx_ok γ) ?_
     simp -implicitDefEqProofs only [go_sem, seval, f2, hi1, hq]
     have h := hk1 _ (.inl hn1)
     refine X_exit ?_
     try simp -implicitDefEqProofs only [go_sem, ↓reduceIte, Nat.reduceEqDiff, reduceCtorEq]
     refine kJ_in ?_ ⟨h, rfl, rfl⟩
     exact To.mv [(0, 0), (1, 0), (2, 0)] (BaseR.refl hob) (by simp) (by decide) (by simp only [go_sem]; exact ⟨VM.refA (j := 0) (t := 0) rfl, VM.refA (j := 1) (t := 1) rfl, VM.refA (j := 2) (t := 2) rfl⟩) ⟨⟨_, rfl, OM.box _ _ ⟨VM.self (by simp), VM.self (by simp), VM.self (by simp), VM.self (by simp), trivial⟩⟩, ⟨_, rfl, OM.box _ _ ⟨VM.self (by simp), VM.self (by simp), VM.self (by simp), VM.self (by simp), VM.self (by simp), VM.self (by simp), VM.self (by simp), VM.self (by simp), VM.self (by simp), VM.self (by simp), VM.self (by simp), VM.self (by simpa using Bd.of_rdK hv1_11), trivial⟩⟩, ⟨_, rfl, OM.box _ _ ⟨VM.self (by simp), trivial⟩⟩, trivial⟩
  ·rw [if_pos f2] at h
   refine X_cond (lx_ok γ) ?_
   simp -implicitDefEqProofs only [go_sem, seval, f2, hq]
   refine X_seq ?_
   refine X_reg (lx_ok γ) ?_
   simp -implicitDefEqProofs only [go_sem, seval, f2, hq]
   obtain rfl := Option.some.inj h
   refine X_ret ?_
   simp -implicitDefEqProofs only [go_sem, seval, f2, hq]
   exact Rt.mv0 (BaseR.refl hob) (by simp) (VM.self (by simp))
 ·refine X_reg (lx_ok γ) ?_
  cases f43 : x1.2
  ·rw [if_neg (ne_true_of_eq_false f43)] at h
   simp -implicitDefEqProofs only [go_sem, seval, f43, hq]
   refine kJ_in ?_ ⟨true, h, rfl, rfl⟩
   exact To.mv [(0, 0), (1, 0), (2, 0)] (BaseR.refl hob) (by simp) (by decide) (by simp only [go_sem]; exact ⟨VM.refA (j := 0) (t := 0) rfl, VM.refA (j := 1) (t := 1) rfl, VM.refA (j := 2) (t := 2) rfl, VM.self (by simp)⟩) ⟨⟨_, rfl, OM.box _ _ ⟨VM.self (by simp), VM.self (by simp), VM.self (by simp), VM.self (by simp), trivial⟩⟩, ⟨_, rfl, OM.box _ _ ⟨VM.self (by simp), VM.self (by simp), VM.self (by simp), VM.self (by simp), VM.self (by simp), VM.self (by simp), VM.self (by simp), VM.self (by simp), VM.self (by simp), VM.self (by simp), VM.self (by simp), VM.self (by simpa using Bd.of_rdK hv1_11), trivial⟩⟩, ⟨_, rfl, OM.box _ _ ⟨VM.self (by simp), trivial⟩⟩, trivial⟩
  ·rw [if_pos f43] at h
   cases f44 : decide (4 < (List.length a1.Args : Int))
   ·rw [if_neg (ne_true_of_eq_false f44)] at h
    obtain ⟨x18, f45, h⟩ := bindE h
    simp -implicitDefEqProofs only [go_sem, seval, f43, f44, hq]
    refine callV_eq (slices_ContainsFunc_Loc_ok γ _ (by first | exact rdK_app hv1_11 | exact hv1_11) (fun ob1 hp y0 r hx => by obtain ⟨l, rfl⟩ := hp; exact text_room_may_1_ok γ _ (by simp -implicitDefEqProofs only [go_sem, seval, f43, f44, hq]; try rfl) hx) f45) rfl rfl ?_
    simp -implicitDefEqProofs only [go_sem, seval, f43, f44, hq]
    refine kJ_in ?_ ⟨x18, h, rfl, rfl⟩
    exact To.mv [(0, 0), (1, 0), (2, 0)] (BaseR.refl hob) (by simp) (by decide) (by simp only [go_sem]; exact ⟨VM.refA (j := 0) (t := 0) rfl, VM.refA (j := 1) (t := 1) rfl, VM.refA (j := 2) (t := 2) rfl, VM.self (by simp)⟩) ⟨⟨_, rfl, OM.box _ _ ⟨VM.self (by simp), VM.self (by simp), VM.self (by simp), VM.self (by simp), trivial⟩⟩, ⟨_, rfl, OM.box _ _ ⟨VM.self (by simp), VM.self (by simp), VM.self (by simp), VM.self (by simp), VM.self (by simp), VM.self (by simp), VM.self (by simp), VM.self (by simp), VM.self (by simp), VM.self (by simp), VM.self (by simp), VM.self (by simpa using Bd.of_rdK hv1_11), trivial⟩⟩, ⟨_, rfl, OM.box _ _ ⟨VM.self (by simp), trivial⟩⟩, trivial⟩
   ·rw [if_pos f44] at h
    simp -implicitDefEqProofs only [go_sem, seval, f43, f44, hq]
    refine kJ_in ?_ ⟨true, h, rfl, rfl⟩
    exact To.mv [(0, 0), (1, 0), (2, 0)] (BaseR.refl hob) (by simp) (by decide) (by simp only [go_sem]; exact ⟨VM.refA (j := 0) (t := 0) rfl, VM.refA (j := 1) (t := 1) rfl, VM.refA (j := 2) (t := 2) rfl, VM.self (by simp)⟩) ⟨⟨_, rfl, OM.box _ _ ⟨VM.self (by simp), VM.self (by simp), VM.self (by simp), VM.self (by simp), trivial⟩⟩, ⟨_, rfl, OM.box _ _ ⟨VM.self (by simp), VM.self (by simp), VM.self (by simp), VM.self (by simp), VM.self (by simp), VM.self (by simp), VM.self (by simp), VM.self (by simp), VM.self (by simp), VM.self (by simp), VM.self (by simp), VM.self (by simpa using Bd.of_rdK hv1_11), trivial⟩⟩, ⟨_, rfl, OM.box _ _ ⟨VM.self (by simp), trivial⟩⟩, trivial⟩
end Go.Pf
end
section
set_option maxRecDepth 100000
namespace Go.Pf
open Go Go.Ab Go.Pp Go.Proofs Go.Proofs.S19
attribute [local go_sem] Lxτ Lxγ gam0 Int.toNat_natCast tau3 tau4 tau46 tau47 tau49 tau61 eI eB eS e_Loc e_Mins e_Text e_text_room e_text_reader e_portolanref19_reader
set_option maxHeartbeats 1000000 in
theorem text_Right_1_ok (γ : GT) (ob : OT) {a0 : Mins} {v0_11 : V} {o1 : Nat} {a1 : text_room} (hv0_11 : rdK (getO ob) 2 v0_11 = some (List.map e_Loc a0.Args)) (hx1 : getO ob o1 = some (O.box [vint .i64 a1.from_, vint .i64 a1.to_, vint .i64 a1.slots, vint .i64 a1.funcs])) {r : Bool} (h : text_Right_1 a0 a1 = some r) :
  Valid (Lx γ) 36 [V.agg [vint .i64 a0.Op, vint .i64 a0.D.Kind, vint .i64 a0.D.N, vint .i64 a0.A.Kind, vint .i64 a0.A.N, vint .i64 a0.B.Kind, vint .i64 a0.B.N, vint .i64 a0.C.Kind, vint .i64 a0.C.N, vint .i64 a0.N, vint .i64 a0.M, v0_11], V.ref o1 0] ob (vbool r) ob := by
 refine valid_X (lx_ok γ) (fn := Tryd.f36) (rs := [.tmp 3]) Tryd.func36 (by kernel_rfl) rfl rfl Tryd.ntmps36 rfl (by simp) fun hb hob => ?_
 have hq := rd4 hv0_11
 have hoa1 := getO_lt hx1
 rw [text_Right_1] at h
 refine X_seq ?_
 refine X_reg (lx_ok γ) ?_
 simp -implicitDefEqProofs only [go_sem, seval, hq, hx1, getO_ext hx1]
 refine X_seq ?_
 refine X_reg (lx_ok γ) ?_
 obtain ⟨x1, f1, h⟩ := bindE h
 simp -implicitDefEqProofs only [go_sem, seval, hq, hx1, getO_ext hx1]
 refine callV_eq (text_room_may_ok γ _ (by first | exact rdK_app hv0_11 | exact hv0_11) f1) rfl rfl ?_
 simp -implicitDefEqProofs only [go_sem, seval, hq, hx1, getO_ext hx1]
 obtain rfl := Option.some.inj h
 refine X_ret ?_
 simp -implicitDefEqProofs only [go_sem, seval, hq, hx1, getO_ext hx1]
 exact Rt.mv0 (BaseR.refl hob) (by simp) (VM.self (by simp))
end Go.Pf
end
section
set_option maxRecDepth 100000
namespace Go.Pf
open Go Go.Ab Go.Pp Go.Proofs Go.Proofs.S19
attribute [local go_sem] Lxτ Lxγ gam0 Int.toNat_natCast tau3 tau4 tau22 tau23 tau25 tau46 tau47 tau49 tau61 tau63 eI eB eS e_Loc e_Mins e_Text e_text_room e_text_reader e_portolanref19_reader
set_option maxHeartbeats 1000000 in
theorem text_Right_ok (γ : GT) (ob : OT) {a0 : Text} {r : Bool} (h : text_Right a0 = some r) :
  Valid (Lx γ) 15 [V.agg [V.tr (.sl 12 false (List.map e_Mins a0.Code)), V.tr (.sl 1 false (List.map (eI .i64) a0.Starts)), V.tr (.sl 1 false (List.map (eI .i64) a0.Slots))]] ob (vbool r) ob := by
 refine valid_X (lx_ok γ) (fn := Tryd.f15) (rs := [.tmp 2]) Tryd.func15 (by kernel_rfl) rfl rfl Tryd.ntmps15 rfl (by simp) fun hb hob => ?_
 rw [text_Right] at h
 refine X_seq ?_
 refine X_reg (lx_ok γ) ?_
 simp -implicitDefEqProofs only [go_sem, seval]
 refine X_seq ?_
 refine X_reg (lx_ok γ) ?_
 simp -implicitDefEqProofs only [go_sem, seval]
 refine X_seq ?_
 refine X_seq ?_
 refine X_jq (J := fun as1 ob1 => ∃ (x2 : Bool), text_Right.j1 a0 x2 = some r ∧ [(1, V.ref ob.length 0), (3, vint .i64 (List.length a0.Starts : Int)), (33, vbool x2)] = as1 ∧ ob ++ [some (O.box [V.tr (.sl 12 false (List.map e_Mins a0.Code)), V.tr (.sl 1 false (List.map (eI .i64) a0.Starts)), V.tr (.sl 1 false (List.map (eI .i64) a0.Slots))])] = ob1) ?_ ?_
 ·rintro as1 ob1 ⟨x2, h, rfl, rfl⟩
  rw [text_Right.j1] at h
  simp -implicitDefEqProofs only [go_sem, seval]
  cases f1 : x2
  ·rw [if_neg (ne_true_of_eq_false f1)] at h
   refine X_cond (lx_ok γ) ?_
   simp -implicitDefEqProofs only [go_sem, seval, f1]
   refine X_skip ?_
   try simp -implicitDefEqProofs only [go_sem]
   refine X_seq ?_
   refine X_seq ?_
   refine X_reg (lx_ok γ) ?_
   obtain ⟨x3, f2, h⟩ := bindE h
   simp -implicitDefEqProofs only [go_sem, seval, f1]
   refine callV_eq (text_ends_ok γ _  f2) rfl rfl ?_
   simp -implicitDefEqProofs only [go_sem, seval, f1]
   refine X_jq (J := fun as1 ob1 => text_Right.k1 = some r ∧ [] = as1 ∧ ob = ob1) ?_ ?_
   ·rintro as1 ob1 ⟨h, rfl, rfl⟩
    rw [text_Right.k1] at h
    simp -implicitDefEqProofs only [go_sem, seval, f1]
    refine X_seq ?_
    refine X_reg (lx_ok γ) ?_
    simp -implicitDefEqProofs only [go_sem, seval, f1]
    obtain rfl := Option.some.inj h
    refine X_ret ?_
    simp -implicitDefEqProofs only [go_sem, seval, f1]
    exact Rt.mv1 (BaseR.refl hob) (by simp) (VM.self (by simp))
   ·refine X_block ?_
    obtain ⟨lr1, hl1, hk1, hr1⟩ := aft2 h
    refine X_forN hl1 (fun (i1 : Nat) (s : Unit) as1 ob1 => [(1, V.ref ob.length 0), (3, vint .i64 (List.length a0.Starts : Int)), (35, V.row (ob.length + 1) 0 0 (List.length x3)), (36, vint .i64 (List.length x3 : Int)), (37, vint .i64 (i1 : Int))] = as1 ∧ ob ++ [some (O.box [V.tr (.sl 12 false (List.map e_Mins a0.Code)), V.tr (.sl 1 false (List.map (eI .i64) a0.Starts)), V.tr (.sl 1 false (List.map (eI .i64) a0.Slots))]), some (O.row 1 0 (List.map (eI .i64) x3))] = ob1) ⟨_, _, ?_, rfl, rfl⟩ ?_ ?_
    ·exact To.mv [(0, 0), (1, 0)] (BaseR.refl hob) (by simp) (by decide) (by simp only [go_sem]; exact ⟨VM.refA (j := 0) (t := 0) rfl, VM.self (by simp), VM.rowL (j := 1) (t := 1) rfl (by first | rfl | simp | simp_all | omega), VM.self (by simp), VM.eqv (by simp) (by simp)⟩) ⟨⟨_, rfl, OM.box _ _ ⟨VM.self (by simp), VM.self (by simp), VM.self (by simp), trivial⟩⟩, ⟨_, rfl, OM.row' (by first | rfl | simp_all)⟩, trivial⟩
    ·rintro i1 _ o1 hi1 hw1 h ho1 as1 ob1 ⟨rfl, rfl⟩
     rw [text_Right.b1] at h
     refine X_seq ?_
     refine X_reg (lx_ok γ) ?_
     simp -implicitDefEqProofs only [go_sem, seval, f1, hi1]
     refine X_seq ?_
     refine X_cond (lx_ok γ) ?_
     simp -implicitDefEqProofs only [go_sem, seval, f1, hi1]
     refine X_skip ?_
     try simp -implicitDefEqProofs only [go_sem]
     refine X_seq ?_
     refine X_block ?_
     refine X_seq ?_
     refine X_reg (lx_ok γ) ?_
     obtain ⟨x5, f3, h⟩ := bindE h
     obtain ⟨f4, f5⟩ := ixL_nat f3
     have f6 : (0 : Int) ≤ (i1 : Int) := Int.natCast_nonneg _
     simp -implicitDefEqProofs only [go_sem, seval, f1, hi1, f4, f5, f6]
     refine X_seq ?_
     refine X_reg (lx_ok γ) ?_
     obtain ⟨x6, f7, h⟩ := bindE h
     obtain ⟨f8, f9⟩ := ixL_nat f7
     have f10 : (0 : Int) ≤ (i1 : Int) := Int.natCast_nonneg _
     simp -implicitDefEqProofs only [go_sem, seval, f1, hi1, f8, f9, f10]
     refine X_seq ?_
     refine X_seq ?_
     refine X_jq (J := fun as1 ob1 => ∃ (x9 : Bool), text_Right.j2 a0 x5 x6 x9 i1 = some o1 ∧ [(1, V.ref ob.length 0), (3, vint .i64 (List.length a0.Starts : Int)), (4, vint .i64 (i1 : Int)), (5, vint .i64 x5), (6, vint .i64 x6), (35, V.row (ob.length + 1) 0 0 (List.length x3)), (36, vint .i64 (List.length x3 : Int)), (37, vint .i64 (i1 : Int)), (65, vbool x9)] = as1 ∧ ob ++ [some (O.box [V.tr (.sl 12 false (List.map e_Mins a0.Code)), V.tr (.sl 1 false (List.map (eI .i64) a0.Starts)), V.tr (.sl 1 false (List.map (eI .i64) a0.Slots))]), some (O.row 1 0 (List.map (eI .i64) x3))] = ob1) ?_ ?_
     ·rintro as1 ob1 ⟨x9, h, rfl, rfl⟩
      rw [text_Right.j2] at h
      simp -implicitDefEqProofs only [go_sem, seval, f1, hi1]
      cases f11 : x9
      ·rw [if_neg (ne_true_of_eq_false f11)] at h
       refine X_cond (lx_ok γ) ?_
       simp -implicitDefEqProofs only [go_sem, seval, f1, hi1, f11]
       refine X_skip ?_
       try simp -implicitDefEqProofs only [go_sem]
       refine X_seq ?_
       refine X_reg (lx_ok γ) ?_
       obtain ⟨x10, f12, h⟩ := bindE h
       obtain ⟨f13, f14⟩ := ixL_nat f12
       have f15 : (0 : Int) ≤ (i1 : Int) := Int.natCast_nonneg _
       simp -implicitDefEqProofs only [go_sem, seval, f1, hi1, f11, f13, f14, f15]
       refine X_seq ?_
       refine X_reg (lx_ok γ) ?_
       obtain ⟨x11, f16, h⟩ := bindE h
       obtain ⟨f17, f18, f19, f20, f21, f22⟩ := cutL_some2 f16
       try simp only [Int.toNat_natCast, Int.reduceToNat] at f19 f20 f21 f22
       obtain ⟨x12, f23, h⟩ := bindE h
       simp -implicitDefEqProofs only [go_sem, seval, f1, hi1, f11, f17, f18, f19, f20, f21, f22]
       refine callV_eq (slices_ContainsFunc_Mins_ok γ _ (by simp -implicitDefEqProofs only [go_sem, seval, f1, hi1, f11, f17, f18, f19, f20, f21, f22]; try rfl) (fun ob1 hp y0 r hx => by obtain ⟨l, rfl⟩ := hp; exact text_Right_1_ok γ _ (by simp -implicitDefEqProofs only [go_sem, seval, f1, hi1, f11, f17, f18, f19, f20, f21, f22]; try rfl) (by simp -implicitDefEqProofs only [go_sem, seval, f1, hi1, f11, f17, f18, f19, f20, f21, f22]; try rfl) hx) f23) rfl rfl ?_
       cases f24 : x12
       ·rw [if_neg (ne_true_of_eq_false f24)] at h
        obtain ⟨x13, f25, h⟩ := bindE h
        obtain ⟨f26, f27, f28⟩ := ixL_some f25
        try simp only [Int.toNat_natCast, Int.reduceToNat] at f28
        obtain ⟨x14, f29, h⟩ := bindE h
        simp -implicitDefEqProofs only [go_sem, seval, f1, hi1, f11, f24, f17, f18, f19, f20, f21, f22, f26, f27, f28]
        refine callV_eq (text_within_ok γ _  f29) rfl rfl ?_
        simp -implicitDefEqProofs only [go_sem, seval, f1, hi1, f11, f24, f17, f18, f19, f20, f21, f22, f26, f27, f28]
        cases f30 : x14
        ·rw [if_neg (ne_true_of_eq_false f30)] at h
         refine X_cond (lx_ok γ) ?_
         simp -implicitDefEqProofs only [go_sem, seval, f1, hi1, f11, f24, f30, f17, f18, f19, f20, f21, f22, f26, f27, f28]
         refine X_seq ?_
         refine X_reg (lx_ok γ) ?_
         simp -implicitDefEqProofs only [go_sem, seval, f1, hi1, f11, f24, f30]
         obtain rfl := Option.some.inj h
         have h := hr1 _ (ho1 (fun _ hs => nomatch hs))
         obtain rfl := Option.some.inj h
         refine X_ret ?_
         simp -implicitDefEqProofs only [go_sem, seval, f1, hi1, f11, f24, f30]
         exact Rt.mv0 (BaseR.refl hob) (by simp) (VM.self (by simp))
        ·rw [if_pos f30] at h
         refine X_cond (lx_ok γ) ?_
         simp -implicitDefEqProofs only [go_sem, seval, f1, hi1, f11, f24, f30, f17, f18, f19, f20, f21, f22, f26, f27, f28]
         refine X_skip ?_
         try simp -implicitDefEqProofs only [go_sem]
         refine X_reg (lx_ok γ) ?_
         obtain rfl := Option.some.inj h
         simp -implicitDefEqProofs only [go_sem, seval, f1, hi1, f11, f24, f30]
         refine kR_in rfl ?_ ⟨rfl, rfl⟩
         exact To.mv [(0, 0), (1, 0)] (BaseR.refl hob) (by simp) (by decide) (by simp only [go_sem]; exact ⟨VM.refA (j := 0) (t := 0) rfl, VM.self (by simp), VM.rowL (j := 1) (t := 1) rfl (by first | rfl | simp | simp_all | omega), VM.self (by simp), VM.eqv (by rw [hw1]) (by simp)⟩) ⟨⟨_, rfl, OM.box _ _ ⟨VM.self (by simp), VM.self (by simp), VM.self (by simp), trivial⟩⟩, ⟨_, rfl, OM.row' (by first | rfl | simp_all)⟩, trivial⟩
       ·rw [if_pos f24] at h
        simp -implicitDefEqProofs only [go_sem, seval, f1, hi1, f11, f24, f17, f18, f19, f20, f21, f22]
        refine X_condT (lx_ok γ) rfl ?_
        refine X_seq ?_
        refine X_reg (lx_ok γ) ?_
        simp -implicitDefEqProofs only [go_sem, seval, f1, hi1, f11, f24]
        obtain rfl := Option.some.inj h
        have h := hr1 _ (ho1 (fun _ hs => nomatch hs))
        obtain rfl := Option.some.inj h
        refine X_ret ?_
        simp -implicitDefEqProofs only [go_sem, seval, f1, hi1, f11, f24]
        exact Rt.mv0 (BaseR.refl hob) (by simp) (VM.self (by simp))
      ·rw [if_pos f11] at h
       refine X_cond (lx_ok γ) ?_
       simp -implicitDefEqProofs only [go_sem, seval, f1, hi1, f11]
       refine X_seq ?_
       refine X_reg (lx_ok γ) ?_
       simp -implicitDefEqProofs only [go_sem, seval, f1, hi1, f11]
       obtain rfl := Option.some.inj h
       have h := hr1 _ (ho1 (fun _ hs => nomatch hs))
       obtain rfl := Option.some.inj h
       refine X_ret ?_
       simp -implicitDefEqProofs only [go_sem, seval, f1, hi1, f11]
       exact Rt.mv0 (BaseR.refl hob) (by simp) (VM.self (by simp))
     ·refine X_reg (lx_ok γ) ?_
      cases f31 : decide (x5 ≤ x6)
      ·rw [if_neg (ne_true_of_eq_false f31)] at h
       cases f32 : decide ((List.length a0.Code : Int) < x5)
       ·rw [if_neg (ne_true_of_eq_false f32)] at h
        obtain ⟨x15, f33, h⟩ := bindE h
        obtain ⟨f34, f35⟩ := ixL_nat f33
        have f36 : (0 : Int) ≤ (i1 : Int) := Int.natCast_nonneg _
        obtain ⟨x16, f37, h⟩ := bindE h
        simp -implicitDefEqProofs only [go_sem, seval, f1, hi1, f31, f32, f34, f35, f36]
        refine callV_eq (text_within_ok γ _  f37) rfl rfl ?_
        simp -implicitDefEqProofs only [go_sem, seval, f1, hi1, f31, f32, f34, f35, f36]
        refine kJ_in ?_ ⟨(!x16), h, rfl, rfl⟩
        exact To.mv [(0, 0), (1, 0)] (BaseR.refl hob) (by simp) (by decide) (by simp only [go_sem]; exact ⟨VM.refA (j := 0) (t := 0) rfl, VM.self (by simp), VM.self (by simp), VM.self (by simp), VM.self (by simp), VM.rowL (j := 1) (t := 1) rfl (by first | rfl | simp | simp_all | omega), VM.self (by simp), VM.self (by simp), VM.self (by simp)⟩) ⟨⟨_, rfl, OM.box _ _ ⟨VM.self (by simp), VM.self (by simp), VM.self (by simp), trivial⟩⟩, ⟨_, rfl, OM.row' (by first | rfl | simp_all)⟩, trivial⟩
       ·rw [if_pos f32] at h
        simp -implicitDefEqProofs only [go_sem, seval, f1, hi1, f31, f32]
        refine kJ_in ?_ ⟨true, h, rfl, rfl⟩
        exact To.mv [(0, 0), (1, 0)] (BaseR.refl hob) (by simp) (by decide) (by simp only [go_sem]; exact ⟨VM.refA (j := 0) (t := 0) rfl, VM.self (by simp), VM.self (by simp), VM.self (by simp), VM.self (by simp), VM.rowL (j := 1) (t := 1) rfl (by first | rfl | simp | simp_all | omega), VM.self (by simp), VM.self (by simp), VM.self (by simp)⟩) ⟨⟨_, rfl, OM.box _ _ ⟨VM.self (by simp), VM.self (by simp), VM.self (by simp), trivial⟩⟩, ⟨_, rfl, OM.row' (by first | rfl | simp_all)⟩, trivial⟩
      ·rw [if_pos f31] at h
       simp -implicitDefEqProofs only [go_sem, seval, f1, hi1, f31]
       refine kJ_in ?_ ⟨true, h, rfl, rfl⟩
       exact To.mv [(0, 0), (1, 0)] (BaseR.refl hob) (by simp) (by decide) (by simp only [go_sem]; exact ⟨VM.refA (j := 0) (t := 0) rfl, VM.self (by simp), VM.self (by simp), VM.self (by simp), VM.self (by simp), VM.rowL (j := 1) (t := 1) rfl (by first | rfl | simp | simp_all | omega), VM.self (by simp), VM.self (by simp), VM.self (by simp)⟩) ⟨⟨_, rfl, OM.box _ _ ⟨VM.self (by simp), VM.self (by simp), VM.self (by simp), trivial⟩⟩, ⟨_, rfl, OM.row' (by first | rfl | simp_all)⟩, trivial⟩
    ·rintro i1 _ hi1 hn1 as1 ob1 ⟨rfl, rfl⟩
     refine X_seq ?_
     refine X_reg (lx_ok γ) ?_
     simp -implicitDefEqProofs only [go_sem, seval, f1, hi1]
     refine X_seq ?_
     refine X_cond (lx_ok γ) ?_
     simp -implicitDefEqProofs only [go_sem, seval, f1, hi1]
     have h := hk1 _ (.inl hn1)
     refine X_exit ?_
     try simp -implicitDefEqProofs only [go_sem, ↓reduceIte, Nat.reduceEqDiff, reduceCtorEq]
     refine kJ_in ?_ ⟨h, rfl, rfl⟩
     exact To.mv0 (BaseR.refl hob) (by simp) trivial
  ·rw [if_pos f1] at h
   refine X_cond (lx_ok γ) ?_
   simp -implicitDefEqProofs only [go_sem, seval, f1]
   refine X_seq ?_
   refine X_reg (lx_ok γ) ?_
   simp -implicitDefEqProofs only [go_sem, seval, f1]
   obtain rfl := Option.some.inj h
   refine X_ret ?_
   simp -implicitDefEqProofs only [go_sem, seval, f1]
   exact Rt.mv0 (BaseR.refl hob) (by simp) (VM.self (by simp))
 ·refine X_reg (lx_ok γ) ?_
  obtain ⟨x17, f38, h⟩ := bindE h
  simp -implicitDefEqProofs only [go_sem, seval]
  refine callV_eq (text_within_ok γ _  f38) rfl rfl ?_
  cases f39 : x17
  ·rw [if_neg (ne_true_of_eq_false f39)] at h
   simp -implicitDefEqProofs only [go_sem, seval, f39]
   refine kJ_in ?_ ⟨true, h, rfl, rfl⟩
   exact To.mv [(0, 0)] (BaseR.refl hob) (by simp) (by decide) (by simp only [go_sem]; exact ⟨VM.refA (j := 0) (t := 0) rfl, VM.self (by simp), VM.self (by simp)⟩) ⟨⟨_, rfl, OM.box _ _ ⟨VM.self (by simp), VM.self (by simp), VM.self (by simp), trivial⟩⟩, trivial⟩
  ·rw [if_pos f39] at h
   cases f40 : ((List.length a0.Slots : Int) != (List.length a0.Starts : Int))
   ·rw [if_neg (ne_true_of_eq_false f40)] at h
    cases f41 : decide (8000 < (List.length a0.Code : Int))
    ·rw [if_neg (ne_true_of_eq_false f41)] at h
     obtain ⟨x18, f42, h⟩ := bindE h
     obtain ⟨f43, f44, f45⟩ := ixL_some f42
     try simp only [Int.toNat_natCast, Int.reduceToNat] at f45
     simp -implicitDefEqProofs only [go_sem, seval, f39, f40, f41, f44, f45]
     refine kJ_in ?_ ⟨(x18 != 0), h, rfl, rfl⟩
     exact To.mv [(0, 0)] (BaseR.refl hob) (by simp) (by decide) (by simp only [go_sem]; exact ⟨VM.refA (j := 0) (t := 0) rfl, VM.self (by simp), VM.self (by simp)⟩) ⟨⟨_, rfl, OM.box _ _ ⟨VM.self (by simp), VM.self (by simp), VM.self (by simp), trivial⟩⟩, trivial⟩
    ·rw [if_pos f41] at h
     simp -implicitDefEqProofs only [go_sem, seval, f39, f40, f41]
     refine kJ_in ?_ ⟨true, h, rfl, rfl⟩
     exact To.mv [(0, 0)] (BaseR.refl hob) (by simp) (by decide) (by simp only [go_sem]; exact ⟨VM.refA (j := 0) (t := 0) rfl, VM.self (by simp), VM.self (by simp)⟩) ⟨⟨_, rfl, OM.box _ _ ⟨VM.self (by simp), VM.self (by simp), VM.self (by simp), trivial⟩⟩, trivial⟩
   ·rw [if_pos f40] at h
    simp -implicitDefEqProofs only [go_sem, seval, f39, f40]
    refine kJ_in ?_ ⟨true, h, rfl, rfl⟩
    exact To.mv [(0, 0)] (BaseR.refl hob) (by simp) (by decide) (by simp only [go_sem]; exact ⟨VM.refA (j := 0) (t := 0) rfl, VM.self (by simp), VM.self (by simp)⟩) ⟨⟨_, rfl, OM.box _ _ ⟨VM.self (by simp), VM.self (by simp), VM.self (by simp), trivial⟩⟩, trivial⟩
end Go.Pf
end
section
set_option maxRecDepth 100000
namespace Go.Pf
open Go Go.Ab Go.Pp Go.Proofs Go.Proofs.S19
attribute [local go_sem] Lxτ Lxγ gam0 Int.toNat_natCast tau5 tau28 eI eB eS e_Loc e_Mins e_Text e_text_room e_text_reader e_portolanref19_reader
set_option maxHeartbeats 1000000 in
theorem slices_Clip_byte_ok (γ : GT) (ob : OT) {a0 : List Int} {r : List Int} (h : slices_Clip_byte a0 = some r) :
  Valid (Lx γ) 73 [V.tr (.sl 1 false (List.map (eI .u8) a0))] ob (V.tr (.sl 1 true (List.map (eI .u8) r))) ob := by
 refine valid_X (lx_ok γ) (fn := Tryd.f73) (rs := [.tmp 2]) Tryd.func73 (by kernel_rfl) rfl rfl Tryd.ntmps73 rfl (by simp) fun hb hob => ?_
 rw [slices_Clip_byte] at h
 refine X_seq ?_
 refine X_reg (lx_ok γ) ?_
 simp -implicitDefEqProofs only [go_sem, seval]
 refine X_seq ?_
 refine X_reg (lx_ok γ) ?_
 simp -implicitDefEqProofs only [go_sem, seval]
 obtain rfl := Option.some.inj h
 refine X_ret ?_
 simp -implicitDefEqProofs only [go_sem, seval]
 exact Rt.mv1 (BaseR.refl hob) (by simp) (VM.self (by simp))
end Go.Pf
end
section
set_option maxRecDepth 100000
namespace Go.Pf
open Go Go.Ab Go.Pp Go.Proofs Go.Proofs.S19
attribute [local go_sem] Lxτ Lxγ gam0 Int.toNat_natCast tau5 tau28 tau79 eI eB eS e_Loc e_Mins e_Text e_text_room e_text_reader e_portolanref19_reader
set_option maxHeartbeats 1000000 in
theorem varint_put_ok (γ : GT) (ob : OT) {a0 : List Int} {a1 : Int} {r : List Int} (h : varint_put a0 a1 = some r) :
  Valid (Lx γ) 48 [V.tr (.sl 1 false (List.map (eI .u8) a0)), vint .u64 a1] ob (V.row ob.length 0 0 (List.length r)) (ob ++ [some (O.row 1 0 (List.map (eI .u8) r))]) := by
 refine valid_X (lx_ok γ) (fn := Tryd.f48) (rs := [.tmp 4]) Tryd.func48 (by kernel_rfl) rfl rfl Tryd.ntmps48 rfl (by simp) fun hb hob => ?_
 rw [varint_put] at h
 refine X_seq ?_
 refine X_reg (lx_ok γ) ?_
 simp -implicitDefEqProofs only [go_sem, seval]
 refine X_seq ?_
 refine X_reg (lx_ok γ) ?_
 obtain ⟨x1, f1, h⟩ := bindE h
 simp -implicitDefEqProofs only [go_sem, seval]
 refine callV_eq (slices_Clip_byte_ok γ _  f1) rfl rfl ?_
 simp -implicitDefEqProofs only [go_sem, seval]
 refine X_seq ?_
 refine X_jq (J := fun as1 ob1 => ∃ (x2 : List Int) (x3 : Int), varint_put.k1 x2 x3 = some r ∧ (([(0, V.tr (.sl 1 true (List.map (eI .u8) x2))), (1, vint .u64 x3)] = as1 ∧ ob = ob1) ∨ ([(0, V.row ob.length 0 0 (List.length x2)), (1, vint .u64 x3)] = as1 ∧ ob ++ [some (O.row 1 0 (List.map (eI .u8) x2))] = ob1))) ?_ ?_
 ·rintro as1 ob1 ⟨x2, x3, h, ⟨rfl, rfl⟩ | ⟨rfl, rfl⟩⟩
  ·rw [varint_put.k1] at h
   simp -implicitDefEqProofs only [go_sem, seval]
   refine X_seq ?_
   refine X_reg (lx_ok γ) ?_
   obtain ⟨x4, f2, h⟩ := bindE h
   have f3 : List.length x4 ≤ 140737488355328 := by have := (appL_some f2).1; rw [(appL_some f2).2]; simpa using this
   have f4 : List.map (eI .u8) x2 ++ [[.lit (.int .u8 (u8 x3))]] = List.map (eI .u8) x4 := by rw [(appL_some f2).2]; simp [eB, eI, eS]
   have f5 : List.length x2 + 1 = List.length x4 := by rw [(appL_some f2).2]; simp
   simp -implicitDefEqProofs only [go_sem, seval, false_and, f3, f4, f5]
   obtain rfl := Option.some.inj h
   refine X_ret ?_
   simp -implicitDefEqProofs only [go_sem, seval, false_and, f3, f4, f5]
   exact Rt.mv [(1, 0)] (BaseR.refl hob) (by simp) (by decide) (VM.rowL (j := 1) (t := 0) rfl (by first | rfl | simp | simp_all | omega)) ⟨⟨_, rfl, OM.row' (by first | rfl | simp_all)⟩, trivial⟩
  ·rw [varint_put.k1] at h
   simp -implicitDefEqProofs only [go_sem, seval]
   refine X_seq ?_
   refine X_reg (lx_ok γ) ?_
   obtain ⟨x4, f2, h⟩ := bindE h
   have f3 : List.length x4 ≤ 140737488355328 := by have := (appL_some f2).1; rw [(appL_some f2).2]; simpa using this
   have f4 : List.map (eI .u8) x2 ++ [[.lit (.int .u8 (u8 x3))]] = List.map (eI .u8) x4 := by rw [(appL_some f2).2]; simp [eB, eI, eS]
   have f5 : List.length x2 + 1 = List.length x4 := by rw [(appL_some f2).2]; simp
   simp -implicitDefEqProofs only [go_sem, seval, false_and, f3, f4, f5]
   obtain rfl := Option.some.inj h
   refine X_ret ?_
   simp -implicitDefEqProofs only [go_sem, seval, false_and, f3, f4, f5]
   exact Rt.mv [(0, 1)] (BaseR.refl hob) (by simp) (by decide) (VM.rowL (j := 0) (t := 0) rfl (by first | rfl | simp | simp_all | omega)) ⟨⟨_, rfl, OM.row' (by first | rfl | simp_all)⟩, trivial⟩
 ·refine X_block ?_
  obtain ⟨lr1, hl1, hk1, hr1⟩ := aft2 h
  refine X_while hl1 (fun (s : (List Int) × Int) as1 ob1 => ([(0, V.tr (.sl 1 true (List.map (eI .u8) s.1))), (1, vint .u64 s.2)] = as1 ∧ ob = ob1) ∨ ([(0, V.row ob.length 0 0 (List.length s.1)), (1, vint .u64 s.2)] = as1 ∧ ob ++ [some (O.row 1 0 (List.map (eI .u8) s.1))] = ob1)) ⟨_, _, ?_, .inl ⟨rfl, rfl⟩⟩ ?_
  ·exact To.mv1 (BaseR.refl hob) (by simp) (by simp only [go_sem]; exact ⟨VM.self (by simp), VM.self (by simp)⟩)
  ·rintro ⟨x2, x3⟩ o1 h ho1 as1 ob1 (⟨rfl, rfl⟩ | ⟨rfl, rfl⟩)
   ·rw [varint_put.b1] at h
    refine X_seq ?_
    refine X_seq ?_
    refine X_reg (lx_ok γ) ?_
    simp -implicitDefEqProofs only [go_sem, seval]
    cases f6 : decide (128 ≤ x3)
    ·rw [if_neg (ne_true_of_eq_false f6)] at h
     refine X_cond (lx_ok γ) ?_
     simp -implicitDefEqProofs only [go_sem, seval, f6]
     obtain rfl := Option.some.inj h
     have h := hk1 _ (.inr (ho1 (fun _ hs => nomatch hs)))
     refine X_exit ?_
     try simp -implicitDefEqProofs only [go_sem, ↓reduceIte, Nat.reduceEqDiff, reduceCtorEq]
     refine kJ_in ?_ ⟨x2, x3, h, .inl ⟨rfl, rfl⟩⟩
     exact To.mv1 (BaseR.refl hob) (by simp) (by simp only [go_sem]; exact ⟨VM.self (by simp), VM.self (by simp)⟩)
    ·rw [if_pos f6] at h
     refine X_cond (lx_ok γ) ?_
     simp -implicitDefEqProofs only [go_sem, seval, f6]
     refine X_skip ?_
     try simp -implicitDefEqProofs only [go_sem]
     refine X_block ?_
     refine X_seq ?_
     refine X_reg (lx_ok γ) ?_
     obtain ⟨x5, f7, h⟩ := bindE h
     have f8 : List.length x5 ≤ 140737488355328 := by have := (appL_some f7).1; rw [(appL_some f7).2]; simpa using this
     have f9 : List.map (eI .u8) x2 ++ [[.lit (.int .u8 (u8 (orW 8 (u8 x3) 128)))]] = List.map (eI .u8) x5 := by rw [(appL_some f7).2]; simp [eB, eI, eS]
     have f10 : List.length x2 + 1 = List.length x5 := by rw [(appL_some f7).2]; simp
     simp -implicitDefEqProofs only [go_sem, seval, false_and, f6, f8, f9, f10]
     refine X_reg (lx_ok γ) ?_
     obtain rfl := Option.some.inj h
     simp -implicitDefEqProofs only [go_sem, seval, f6]
     refine kR_in rfl ?_ (.inr ⟨rfl, rfl⟩)
     exact To.mv [(1, 0)] (BaseR.refl hob) (by simp) (by decide) (by simp only [go_sem]; exact ⟨VM.rowL (j := 1) (t := 0) rfl (by first | rfl | simp | simp_all | omega), VM.self (by simp)⟩) ⟨⟨_, rfl, OM.row' (by first | rfl | simp_all)⟩, trivial⟩
   ·rw [varint_put.b1] at h
    refine X_seq ?_
    refine X_seq ?_
    refine X_reg (lx_ok γ) ?_
    simp -implicitDefEqProofs only [go_sem, seval]
    cases f6 : decide (128 ≤ x3)
    ·rw [if_neg (ne_true_of_eq_false f6)] at h
     refine X_cond (lx_ok γ) ?_
     simp -implicitDefEqProofs only [go_sem, seval, f6]
     obtain rfl := Option.some.inj h
     have h := hk1 _ (.inr (ho1 (fun _ hs => nomatch hs)))
     refine X_exit ?_
     try simp -implicitDefEqProofs only [go_sem, ↓reduceIte, Nat.reduceEqDiff, reduceCtorEq]
     refine kJ_in ?_ ⟨x2, x3, h, .inr ⟨rfl, rfl⟩⟩
     exact To.mv [(0, 0)] (BaseR.refl hob) (by simp) (by decide) (by simp only [go_sem]; exact ⟨VM.rowL (j := 0) (t := 0) rfl (by first | rfl | simp | simp_all | omega), VM.self (by simp)⟩) ⟨⟨_, rfl, OM.row' (by first | rfl | simp_all)⟩, trivial⟩
    ·rw [if_pos f6] at h
     refine X_cond (lx_ok γ) ?_
     simp -implicitDefEqProofs only [go_sem, seval, f6]
     refine X_skip ?_
     try simp -implicitDefEqProofs only [go_sem]
     refine X_block ?_
     refine X_seq ?_
     refine X_reg (lx_ok γ) ?_
     obtain ⟨x5, f7, h⟩ := bindE h
     have f8 : List.length x5 ≤ 140737488355328 := by have := (appL_some f7).1; rw [(appL_some f7).2]; simpa using this
     have f9 : List.map (eI .u8) x2 ++ [[.lit (.int .u8 (u8 (orW 8 (u8 x3) 128)))]] = List.map (eI .u8) x5 := by rw [(appL_some f7).2]; simp [eB, eI, eS]
     have f10 : List.length x2 + 1 = List.length x5 := by rw [(appL_some f7).2]; simp
     simp -implicitDefEqProofs only [go_sem, seval, false_and, f6, f8, f9, f10]
     refine X_reg (lx_ok γ) ?_
     obtain rfl := Option.some.inj h
     simp -implicitDefEqProofs only [go_sem, seval, f6]
     refine kR_in rfl ?_ (.inr ⟨rfl, rfl⟩)
     exact To.mv [(0, 1)] (BaseR.refl hob) (by simp) (by decide) (by simp only [go_sem]; exact ⟨VM.rowL (j := 0) (t := 0) rfl (by first | rfl | simp | simp_all | omega), VM.self (by simp)⟩) ⟨⟨_, rfl, OM.row' (by first | rfl | simp_all)⟩, trivial⟩
end Go.Pf
end
section
set_option maxRecDepth 100000
namespace Go.Pf
open Go Go.Ab Go.Pp Go.Proofs Go.Proofs.S19
attribute [local go_sem] Lxτ Lxγ gam0 Int.toNat_natCast tau5 tau28 eI eB eS e_Loc e_Mins e_Text e_text_room e_text_reader e_portolanref19_reader
theorem slices_Clone_byte_ok (γ : GT) (ob : OT) {a0 : List Int} {v0 : V} (hv0 : rdK (getO ob) 1 v0 = some (List.map (eI .u8) a0)) {r : List Int} (h : slices_Clone_byte a0 = some r) :
  Valid (Lx γ) 72 [v0] ob (V.row ob.length 0 0 (List.length r)) (ob ++ [some (O.row 1 0 (List.map (eI .u8) r))]) := by
 rw [slices_Clone_byte] at h
 have hn : List.length a0 ≤ 140737488355328 := by simpa using (appL_some h).1
 obtain rfl : r = a0 := by simpa using (appL_some h).2
 refine valid_W (lx_ok γ) (fn := Tryd.f72) (rs := [.tmp 2]) Tryd.func72 (by kernel_rfl) rfl rfl Tryd.ntmps72 (Nat.le_of_ble_eq_true rfl) (by simp) fun hb hob => ?_
 obtain ⟨k', hs⟩ := rdK_rdS hv0
 simp -implicitDefEqProofs only [go_sem, seval, hs, rdK_app hv0, hv0, hn]
 refine ⟨fun h0 => ?_, ?_⟩
 ·have : r = [] := by simpa using h0
  subst this
  exact Rt.nilRow
 ·exact Rt.row (j := 0) hob rfl rfl
end Go.Pf
end
section
set_option maxRecDepth 100000
namespace Go.Pf
open Go Go.Ab Go.Pp Go.Proofs Go.Proofs.S19
attribute [local go_sem] Lxτ Lxγ gam0 Int.toNat_natCast tau3 tau5 tau28 tau79 eI eB eS e_Loc e_Mins e_Text e_text_room e_text_reader e_portolanref19_reader
set_option maxHeartbeats 1000000 in
theorem varint_Put_ok (γ : GT) (ob : OT) {a0 : List Int} {a1 : Int} {r : List Int} (h : varint_Put a0 a1 = some r) :
  Valid (Lx γ) 46 [V.tr (.sl 1 false (List.map (eI .u8) a0)), vint .i64 a1] ob (V.row ob.length 0 0 (List.length r)) (ob ++ [some (O.row 1 0 (List.map (eI .u8) r))]) := by
 refine valid_X (lx_ok γ) (fn := Tryd.f46) (rs := [.tmp 4]) Tryd.func46 (by kernel_rfl) rfl rfl Tryd.ntmps46 rfl (by simp) fun hb hob => ?_
 rw [varint_Put] at h
 refine X_seq ?_
 refine X_reg (lx_ok γ) ?_
 simp -implicitDefEqProofs only [go_sem, seval]
 refine X_seq ?_
 refine X_seq ?_
 refine X_reg (lx_ok γ) ?_
 simp -implicitDefEqProofs only [go_sem, seval]
 cases f1 : decide (a1 < 0)
 ·rw [if_neg (ne_true_of_eq_false f1)] at h
  refine X_cond (lx_ok γ) ?_
  simp -implicitDefEqProofs only [go_sem, seval, f1]
  refine X_skip ?_
  try simp -implicitDefEqProofs only [go_sem]
  refine X_seq ?_
  refine X_reg (lx_ok γ) ?_
  obtain ⟨x1, f2, h⟩ := bindE h
  simp -implicitDefEqProofs only [go_sem, seval, f1]
  refine callV_eq (varint_put_ok γ _  f2) rfl rfl ?_
  simp -implicitDefEqProofs only [go_sem, seval, f1]
  obtain rfl := Option.some.inj h
  refine X_ret ?_
  simp -implicitDefEqProofs only [go_sem, seval, f1]
  exact Rt.mv [(0, 0)] (BaseR.refl hob) (by simp) (by decide) (VM.rowL (j := 0) (t := 0) rfl (by first | rfl | simp | simp_all | omega)) ⟨⟨_, rfl, OM.row' (by first | rfl | simp_all)⟩, trivial⟩
 ·rw [if_pos f1] at h
  refine X_cond (lx_ok γ) ?_
  simp -implicitDefEqProofs only [go_sem, seval, f1]
  refine X_seq ?_
  refine X_reg (lx_ok γ) ?_
  obtain ⟨x2, f3, h⟩ := bindE h
  simp -implicitDefEqProofs only [go_sem, seval, f1]
  refine callV_eq (slices_Clone_byte_ok γ _ (by simp -implicitDefEqProofs only [go_sem, seval, f1]; try rfl) f3) rfl rfl ?_
  simp -implicitDefEqProofs only [go_sem, seval, f1]
  obtain rfl := Option.some.inj h
  refine X_ret ?_
  simp -implicitDefEqProofs only [go_sem, seval, f1]
  exact Rt.mv [(0, 0)] (BaseR.refl hob) (by simp) (by decide) (VM.rowL (j := 0) (t := 0) rfl (by first | rfl | simp | simp_all | omega)) ⟨⟨_, rfl, OM.row' (by first | rfl | simp_all)⟩, trivial⟩
end Go.Pf
end
section
set_option maxRecDepth 100000
namespace Go.Pf
open Go Go.Ab Go.Pp Go.Proofs Go.Proofs.S19
attribute [local go_sem] Lxτ Lxγ gam0 Int.toNat_natCast tau3 tau5 tau23 tau28 eI eB eS e_Loc e_Mins e_Text e_text_room e_text_reader e_portolanref19_reader
set_option maxHeartbeats 1000000 in
theorem varint_List_ok (γ : GT) (ob : OT) {a0 : List Int} {v0 : V} (hv0 : rdK (getO ob) 1 v0 = some (List.map (eI .i64) a0)) {r : List Int} (h : varint_List a0 = some r) :
  Valid (Lx γ) 22 [v0] ob (V.row ob.length 0 0 (List.length r)) (ob ++ [some (O.row 1 0 (List.map (eI .u8) r))]) := by
 refine valid_X (lx_ok γ) (fn := Tryd.f22) (rs := [.tmp 2]) Tryd.func22 (by kernel_rfl) rfl rfl Tryd.ntmps22 rfl (by simp) fun hb hob => ?_
 have hq := rd4 hv0
 rw [varint_List] at h
 refine X_seq ?_
 refine X_reg (lx_ok γ) ?_
 simp -implicitDefEqProofs only [go_sem, seval, hq]
 refine X_seq ?_
 refine X_reg (lx_ok γ) ?_
 simp -implicitDefEqProofs only [go_sem, seval, hq]
 refine X_seq ?_
 refine X_seq ?_
 refine X_reg (lx_ok γ) ?_
 simp -implicitDefEqProofs only [go_sem, seval, hq]
 refine X_jq (J := fun as1 ob1 => ∃ (x1 : List Int), varint_List.k1 x1 = some r ∧ [(3, V.row ob.length 0 0 (List.length x1))] = as1 ∧ ob ++ [some (O.row 1 0 (List.map (eI .u8) x1))] = ob1) ?_ ?_
 ·rintro as1 ob1 ⟨x1, h, rfl, rfl⟩
  rw [varint_List.k1] at h
  simp -implicitDefEqProofs only [go_sem, seval, hq]
  refine X_seq ?_
  refine X_reg (lx_ok γ) ?_
  simp -implicitDefEqProofs only [go_sem, seval, hq]
  obtain rfl := Option.some.inj h
  refine X_ret ?_
  simp -implicitDefEqProofs only [go_sem, seval, hq]
  exact Rt.mv [(0, 0)] (BaseR.refl hob) (by simp) (by decide) (VM.rowL (j := 0) (t := 0) rfl (by first | rfl | simp | simp_all | omega)) ⟨⟨_, rfl, OM.row' (by first | rfl | simp_all)⟩, trivial⟩
 ·refine X_block ?_
  obtain ⟨lr1, hl1, hk1, hr1⟩ := aft2 h
  refine X_forN hl1 (fun (i1 : Nat) (s : (List Int)) as1 ob1 => [(3, V.row ob.length 0 0 (List.length s)), (6, v0), (7, vint .i64 (List.length a0 : Int)), (8, vint .i64 (i1 : Int))] = as1 ∧ ob ++ [some (O.row 1 0 (List.map (eI .u8) s))] = ob1) ⟨_, _, ?_, rfl, rfl⟩ ?_ ?_
  ·exact To.trans (To.ghost (as' := [(3, V.row ob.length 0 0 0), (6, _), (7, _), (8, _)]) 1 ⟨VG.nilL, VG.refl _ _ _, VG.refl _ _ _, VG.refl _ _ _, trivial⟩) (To.mv [(0, 0)] (BaseR.refl hob) (by simp) (by decide) (by simp only [go_sem]; exact ⟨VM.rowL (j := 0) (t := 0) rfl (by simp), VM.self (by simpa using Bd.of_rdK hv0), VM.self (by simp), VM.eqv (by simp) (by simp)⟩) ⟨⟨_, rfl, OM.row' rfl⟩, trivial⟩)
  ·rintro i1 x1 o1 hi1 hw1 h ho1 as1 ob1 ⟨rfl, rfl⟩
   rw [varint_List.b1] at h
   refine X_seq ?_
   refine X_reg (lx_ok γ) ?_
   simp -implicitDefEqProofs only [go_sem, seval, hi1, hq]
   refine X_seq ?_
   refine X_cond (lx_ok γ) ?_
   simp -implicitDefEqProofs only [go_sem, seval, hi1, hq]
   refine X_skip ?_
   try simp -implicitDefEqProofs only [go_sem]
   refine X_seq ?_
   refine X_block ?_
   refine X_seq ?_
   refine X_reg (lx_ok γ) ?_
   obtain ⟨x3, f1, h⟩ := bindE h
   obtain ⟨f2, f3⟩ := ixL_nat f1
   have f4 : (0 : Int) ≤ (i1 : Int) := Int.natCast_nonneg _
   simp -implicitDefEqProofs only [go_sem, seval, hi1, hq, f2, f3, f4]
   refine X_reg (lx_ok γ) ?_
   obtain ⟨x4, f5, h⟩ := bindE h
   simp -implicitDefEqProofs only [go_sem, seval, hi1, hq]
   refine callV_eq (Valid.frzR (b := ob) (l := [some (O.row 1 0 (List.map (eI .u8) x1))]) (l' := [none]) (args := [V.row ob.length 0 0 (List.length x1), vint .i64 x3]) (args' := [V.tr (.sl 1 false (List.map (eI .u8) x1)), vint .i64 x3]) 0 rfl rfl ⟨VZ.row (by first | rfl | simp), VZ.refl, trivial⟩ (varint_Put_ok γ _  f5)) rfl rfl ?_
   simp -implicitDefEqProofs only [go_sem, seval, hi1, hq]
   refine X_reg (lx_ok γ) ?_
   obtain rfl := Option.some.inj h
   simp -implicitDefEqProofs only [go_sem, seval, hi1, hq]
   refine kR_in rfl ?_ ⟨rfl, rfl⟩
   exact To.mv [(1, 0)] (BaseR.refl hob) (by simp) (by decide) (by simp only [go_sem]; exact ⟨VM.rowL (j := 1) (t := 0) rfl (by first | rfl | simp | simp_all | omega), VM.self (by simpa using Bd.of_rdK hv0), VM.self (by simp), VM.eqv (by rw [hw1]) (by simp)⟩) ⟨⟨_, rfl, OM.row' (by first | rfl | simp_all)⟩, trivial⟩
  ·rintro i1 x1 hi1 hn1 as1 ob1 ⟨rfl, rfl⟩
   refine X_seq ?_
   refine X_reg (lx_ok γ) ?_
   simp -implicitDefEqProofs only [go_sem, seval, hi1, hq]
   refine X_seq ?_
   refine X_cond (lx_ok γ) ?_
   simp -implicitDefEqProofs only [go_sem, seval, hi1, hq]
   have h := hk1 _ (.inl hn1)
   refine X_exit ?_
   try simp -implicitDefEqProofs only [go_sem, ↓reduceIte, Nat.reduceEqDiff, reduceCtorEq]
   refine kJ_in ?_ ⟨x1, h, rfl, rfl⟩
   exact To.mv [(0, 0)] (BaseR.refl hob) (by simp) (by decide) (by simp only [go_sem]; exact VM.rowL (j := 0) (t := 0) rfl (by first | rfl | simp | simp_all | omega)) ⟨⟨_, rfl, OM.row' (by first | rfl | simp_all)⟩, trivial⟩
end Go.Pf
end
section
set_option maxRecDepth 100000
namespace Go.Pf
open Go Go.Ab Go.Pp Go.Proofs Go.Proofs.S19
attribute [local go_sem] Lxτ Lxγ gam0 Int.toNat_natCast tau3 tau5 tau28 tau79 eI eB eS e_Loc e_Mins e_Text e_text_room e_text_reader e_portolanref19_reader
set_option maxHeartbeats 1000000 in
theorem varint_PutSigned_ok (γ : GT) (ob : OT) {a0 : List Int} {a1 : Int} {r : List Int} (h : varint_PutSigned a0 a1 = some r) :
  Valid (Lx γ) 24 [V.tr (.sl 1 false (List.map (eI .u8) a0)), vint .i64 a1] ob (V.row ob.length 0 0 (List.length r)) (ob ++ [some (O.row 1 0 (List.map (eI .u8) r))]) := by
 refine valid_X (lx_ok γ) (fn := Tryd.f24) (rs := [.tmp 4]) Tryd.func24 (by kernel_rfl) rfl rfl Tryd.ntmps24 rfl (by simp) fun hb hob => ?_
 rw [varint_PutSigned] at h
 refine X_seq ?_
 refine X_reg (lx_ok γ) ?_
 simp -implicitDefEqProofs only [go_sem, seval]
 refine X_seq ?_
 refine X_reg (lx_ok γ) ?_
 obtain ⟨x1, f1, h⟩ := bindE h
 simp -implicitDefEqProofs only [go_sem, seval]
 refine callV_eq (varint_put_ok γ _  f1) rfl rfl ?_
 simp -implicitDefEqProofs only [go_sem, seval]
 obtain rfl := Option.some.inj h
 refine X_ret ?_
 simp -implicitDefEqProofs only [go_sem, seval]
 exact Rt.mv [(0, 0)] (BaseR.refl hob) (by simp) (by decide) (VM.rowL (j := 0) (t := 0) rfl (by first | rfl | simp | simp_all | omega)) ⟨⟨_, rfl, OM.row' (by first | rfl | simp_all)⟩, trivial⟩
end Go.Pf
end
section
set_option maxRecDepth 100000
namespace Go.Pf
open Go Go.Ab Go.Pp Go.Proofs Go.Proofs.S19
attribute [local go_sem] Lxτ Lxγ gam0 Int.toNat_natCast tau3 tau46 eI eB eS e_Loc e_Mins e_Text e_text_room e_text_reader e_portolanref19_reader
set_option maxHeartbeats 1000000 in
theorem text_number_ok (γ : GT) (ob : OT) {a0 : Loc} {r : Int} (h : text_number a0 = some r) :
  Valid (Lx γ) 25 [V.agg [vint .i64 a0.Kind, vint .i64 a0.N]] ob (vint .i64 r) ob := by
 refine valid_X (lx_ok γ) (fn := Tryd.f25) (rs := [.tmp 2]) Tryd.func25 (by kernel_rfl) rfl rfl Tryd.ntmps25 rfl (by simp) fun hb hob => ?_
 rw [text_number] at h
 refine X_seq ?_
 refine X_reg (lx_ok γ) ?_
 simp -implicitDefEqProofs only [go_sem, seval]
 refine X_seq ?_
 refine X_reg (lx_ok γ) ?_
 simp -implicitDefEqProofs only [go_sem, seval]
 obtain rfl := Option.some.inj h
 refine X_ret ?_
 simp -implicitDefEqProofs only [go_sem, seval]
 exact Rt.mv0 (BaseR.refl hob) (by simp) (VM.self (by simp))
end Go.Pf
end
section
set_option maxRecDepth 100000
namespace Go.Pf
open Go Go.Ab Go.Pp Go.Proofs Go.Proofs.S19
attribute [local go_sem] Lxτ Lxγ gam0 Int.toNat_natCast tau3 tau4 tau5 tau9 tau22 tau23 tau25 tau28 tau46 tau47 tau49 tau56 eI eB eS e_Loc e_Mins e_Text e_text_room e_text_reader e_portolanref19_reader
set_option maxHeartbeats 1000000 in
theorem text_Encode_ok (γ : GT) (ob : OT) {a0 : Text} {r : List Int × Int} (h : text_Encode a0 = some r) :
  Valid (Lx γ) 10 [V.agg [V.tr (.sl 12 false (List.map e_Mins a0.Code)), V.tr (.sl 1 false (List.map (eI .i64) a0.Starts)), V.tr (.sl 1 false (List.map (eI .i64) a0.Slots))]] ob (V.tup [V.tr (.sl 1 false (List.map (eI .u8) r.1)), vint .i64 r.2]) ob := by
 refine valid_X (lx_ok γ) (fn := Tryd.f10) (rs := [.tmp 2, .tmp 3]) Tryd.func10 (by kernel_rfl) rfl rfl Tryd.ntmps10 rfl (by simp) fun hb hob => ?_
 rw [text_Encode] at h
 refine X_seq ?_
 refine X_reg (lx_ok γ) ?_
 simp -implicitDefEqProofs only [go_sem, seval]
 refine X_seq ?_
 refine X_seq ?_
 refine X_reg (lx_ok γ) ?_
 obtain ⟨x1, f1, h⟩ := bindE h
 simp -implicitDefEqProofs only [go_sem, seval]
 refine callV_eq (text_Right_ok γ _  f1) rfl rfl ?_
 simp -implicitDefEqProofs only [go_sem, seval]
 cases f2 : x1
 ·rw [if_neg (ne_true_of_eq_false f2)] at h
  refine X_cond (lx_ok γ) ?_
  simp -implicitDefEqProofs only [go_sem, seval, f2]
  refine X_seq ?_
  refine X_reg (lx_ok γ) ?_
  simp -implicitDefEqProofs only [go_sem, seval, f2]
  obtain rfl := Option.some.inj h
  refine X_ret ?_
  simp -implicitDefEqProofs only [go_sem, seval, f2]
  exact Rt.mv0 (BaseR.refl hob) (by simp) (VM.tup ⟨VM.nil _ _ _, VM.self (by simp), trivial⟩)
 ·rw [if_pos f2] at h
  refine X_cond (lx_ok γ) ?_
  simp -implicitDefEqProofs only [go_sem, seval, f2]
  refine X_skip ?_
  try simp -implicitDefEqProofs only [go_sem]
  refine X_seq ?_
  refine X_reg (lx_ok γ) ?_
  obtain ⟨x2, f3, h⟩ := bindE h
  simp -implicitDefEqProofs only [go_sem, seval, f2]
  refine callV_eq (varint_List_ok γ _ (by simp -implicitDefEqProofs only [go_sem, seval, f2]; try rfl) f3) rfl rfl ?_
  simp -implicitDefEqProofs only [go_sem, seval, f2]
  refine X_seq ?_
  refine X_seq ?_
  refine X_reg (lx_ok γ) ?_
  obtain ⟨x3, f4, h⟩ := bindE h
  simp -implicitDefEqProofs only [go_sem, seval, f2]
  refine callV_eq (text_ends_ok γ _  f4) rfl rfl ?_
  simp -implicitDefEqProofs only [go_sem, seval, f2]
  refine X_jq (J := fun as1 ob1 => ∃ (x4 : List Int), text_Encode.k1 a0 x4 = some r ∧ [(1, V.ref ob.length 0), (4, V.row (ob.length + 1) 0 0 (List.length x4))] = as1 ∧ ob ++ [some (O.box [V.tr (.sl 12 false (List.map e_Mins a0.Code)), V.tr (.sl 1 false (List.map (eI .i64) a0.Starts)), V.tr (.sl 1 false (List.map (eI .i64) a0.Slots))]), some (O.row 1 0 (List.map (eI .u8) x4))] = ob1) ?_ ?_
  ·rintro as1 ob1 ⟨x4, h, rfl, rfl⟩
   rw [text_Encode.k1] at h
   simp -implicitDefEqProofs only [go_sem, seval, f2]
   refine X_seq ?_
   refine X_seq ?_
   refine X_reg (lx_ok γ) ?_
   simp -implicitDefEqProofs only [go_sem, seval, f2]
   refine X_jq (J := fun as1 ob1 => ∃ (x6 : List Int), text_Encode.k2 x6 = some r ∧ [(4, V.row ob.length 0 0 (List.length x6))] = as1 ∧ ob ++ [some (O.row 1 0 (List.map (eI .u8) x6))] = ob1) ?_ ?_
   ·rintro as1 ob1 ⟨x6, h, rfl, rfl⟩
    rw [text_Encode.k2] at h
    simp -implicitDefEqProofs only [go_sem, seval, f2]
    refine X_seq ?_
    refine X_reg (lx_ok γ) ?_
    simp -implicitDefEqProofs only [go_sem, seval, f2]
    obtain rfl := Option.some.inj h
    refine X_ret ?_
    simp -implicitDefEqProofs only [go_sem, seval, f2]
    refine Rt.trans (Rt.freeze (by simp only [go_sem, ↓reduceIte, Nat.reduceAdd, Nat.reduceEqDiff, frz, frzL]; rfl)) ?_
    simp -implicitDefEqProofs only [go_sem, seval, f2]
    exact Rt.mv0 (BaseR.refl hob) (by simp) (VM.tup ⟨VM.self (by simp), VM.self (by simp), trivial⟩)
   ·refine X_block ?_
    obtain ⟨lr2, hl2, hk2, hr2⟩ := aft2 h
    refine X_forN hl2 (fun (i2 : Nat) (s : (List Int)) as1 ob1 => [(4, V.row ob.length 0 0 (List.length s)), (49, V.tr (.sl 12 false (List.map e_Mins a0.Code))), (50, vint .i64 (List.length a0.Code : Int)), (51, vint .i64 (i2 : Int))] = as1 ∧ ob ++ [some (O.row 1 0 (List.map (eI .u8) s))] = ob1) ⟨_, _, ?_, rfl, rfl⟩ ?_ ?_
    ·exact To.mv [(1, 0)] (BaseR.refl hob) (by simp) (by decide) (by simp only [go_sem]; exact ⟨VM.rowL (j := 1) (t := 0) rfl (by first | rfl | simp | simp_all | omega), VM.self (by simp), VM.self (by simp), VM.eqv (by simp) (by simp)⟩) ⟨⟨_, rfl, OM.row' (by first | rfl | simp_all)⟩, trivial⟩
    ·rintro i2 x6 o2 hi2 hw2 h ho2 as1 ob1 ⟨rfl, rfl⟩
     rw [text_Encode.b2] at h
     refine X_seq ?_
     refine X_reg (lx_ok γ) ?_
     simp -implicitDefEqProofs only [go_sem, seval, f2, hi2]
     refine X_seq ?_
     refine X_cond (lx_ok γ) ?_
     simp -implicitDefEqProofs only [go_sem, seval, f2, hi2]
     refine X_skip ?_
     try simp -implicitDefEqProofs only [go_sem]
     refine X_seq ?_
     refine X_block ?_
     refine X_seq ?_
     refine X_reg (lx_ok γ) ?_
     obtain ⟨x8, f5, h⟩ := bindE h
     obtain ⟨f6, f7⟩ := ixL_nat f5
     have f8 : (0 : Int) ≤ (i2 : Int) := Int.natCast_nonneg _
     simp -implicitDefEqProofs only [go_sem, seval, f2, hi2, f6, f7, f8]
     refine X_seq ?_
     refine X_reg (lx_ok γ) ?_
     obtain ⟨x9, f9, h⟩ := bindE h
     simp -implicitDefEqProofs only [go_sem, seval, f2, hi2]
     refine callV_eq (varint_List_ok γ _ (by simp -implicitDefEqProofs only [go_sem, seval, f2, hi2]; try rfl) f9) rfl rfl ?_
     obtain ⟨x10, f10, h⟩ := bindE h
     have f11 : List.length x10 ≤ 140737488355328 := by have := (appL_some f10).1; rw [(appL_some f10).2]; simpa using this
     have f12 : List.map (eI .u8) x6 ++ List.map (eI .u8) x9 = List.map (eI .u8) x10 := by rw [(appL_some f10).2]; simp [eB, eI, eS]
     have f13 : List.length x6 + List.length x9 = List.length x10 := by rw [(appL_some f10).2]; simp
     simp -implicitDefEqProofs only [go_sem, seval, f2, hi2, f11, f12, f13]
     refine X_seq ?_
     refine X_reg (lx_ok γ) ?_
     obtain ⟨x11, f14, h⟩ := bindE h
     simp -implicitDefEqProofs only [go_sem, seval, f2, hi2]
     refine callV_eq (text_Parts_ok γ _  f14) rfl rfl ?_
     simp -implicitDefEqProofs only [go_sem, seval, f2, hi2]
     refine X_seq ?_
     refine X_reg (lx_ok γ) ?_
     obtain ⟨x12, f15, h⟩ := bindE h
     have f16 : ByteArray.size x11.1 ≤ 140737488355328 := of_decide_eq_true (chkB_some f15).1
     have f17 : bytesE x11.1 = List.map (eI .u8) x12 := by rw [(chkB_some f15).2, bytesE_eq]
     simp -implicitDefEqProofs only [go_sem, seval, f2, hi2, f16, f17]
     refine X_jq (J := fun as1 ob1 => ∃ (x13 : List Int), text_Encode.k3 x13 = some o2 ∧ [(4, V.row ob.length 0 0 (List.length x13)), (49, V.tr (.sl 12 false (List.map e_Mins a0.Code))), (50, vint .i64 (List.length a0.Code : Int)), (51, vint .i64 (i2 : Int))] = as1 ∧ ob ++ [some (O.row 1 0 (List.map (eI .u8) x13))] = ob1) ?_ ?_
     ·rintro as1 ob1 ⟨x13, h, rfl, rfl⟩
      rw [text_Encode.k3] at h
      simp -implicitDefEqProofs only [go_sem, seval, f2, hi2]
      refine X_reg (lx_ok γ) ?_
      obtain rfl := Option.some.inj h
      simp -implicitDefEqProofs only [go_sem, seval, f2, hi2]
      refine kR_in rfl ?_ ⟨rfl, rfl⟩
      exact To.mv [(0, 0)] (BaseR.refl hob) (by simp) (by decide) (by simp only [go_sem]; exact ⟨VM.rowL (j := 0) (t := 0) rfl (by first | rfl | simp | simp_all | omega), VM.self (by simp), VM.self (by simp), VM.eqv (by rw [hw2]) (by simp)⟩) ⟨⟨_, rfl, OM.row' (by first | rfl | simp_all)⟩, trivial⟩
     ·refine X_block ?_
      obtain ⟨lr3, hl3, hk3, hr3⟩ := aft2 h
      refine X_forN hl3 (fun (i3 : Nat) (s : (List Int)) as1 ob1 => [(4, V.row ob.length 0 0 (List.length s)), (8, V.ref (ob.length + 1) 0), (49, V.tr (.sl 12 false (List.map e_Mins a0.Code))), (50, vint .i64 (List.length a0.Code : Int)), (51, vint .i64 (i2 : Int)), (68, V.tr (.sl 1 false (List.map (eI .u8) x12))), (69, vint .i64 (List.length x12 : Int)), (70, vint .i64 (i3 : Int))] = as1 ∧ ob ++ [some (O.row 1 0 (List.map (eI .u8) s)), some (O.box [vint .i64 x8.Op, vint .i64 x8.D.Kind, vint .i64 x8.D.N, vint .i64 x8.A.Kind, vint .i64 x8.A.N, vint .i64 x8.B.Kind, vint .i64 x8.B.N, vint .i64 x8.C.Kind, vint .i64 x8.C.N, vint .i64 x8.N, vint .i64 x8.M, V.tr (.sl 2 false (List.map e_Loc x8.Args))])] = ob1) ⟨_, _, ?_, rfl, rfl⟩ ?_ ?_
      ·exact To.mv [(0, 1), (1, 0)] (BaseR.refl hob) (by simp) (by decide) (by simp only [go_sem]; exact ⟨VM.rowL (j := 0) (t := 0) rfl (by first | rfl | simp | simp_all | omega), VM.refA (j := 1) (t := 1) rfl, VM.self (by simp), VM.self (by simp), VM.self (by simp), VM.self (by simp), VM.self (by simp), VM.eqv (by simp) (by simp)⟩) ⟨⟨_, rfl, OM.row' (by first | rfl | simp_all)⟩, ⟨_, rfl, OM.box _ _ ⟨VM.self (by simp), VM.self (by simp), VM.self (by simp), VM.self (by simp), VM.self (by simp), VM.self (by simp), VM.self (by simp), VM.self (by simp), VM.self (by simp), VM.self (by simp), VM.self (by simp), VM.self (by simp), trivial⟩⟩, trivial⟩
      ·rintro i3 x13 o3 hi3 hw3 h ho3 as1 ob1 ⟨rfl, rfl⟩
       rw [text_Encode.b3] at h
       refine X_seq ?_
       refine X_reg (lx_ok γ) ?_
       simp -implicitDefEqProofs only [go_sem, seval, f2, hi2, hi3]
       refine X_seq ?_
       refine X_cond (lx_ok γ) ?_
       simp -implicitDefEqProofs only [go_sem, seval, f2, hi2, hi3]
       refine X_skip ?_
       try simp -implicitDefEqProofs only [go_sem]
       refine X_seq ?_
       refine X_block ?_
       refine X_seq ?_
       refine X_reg (lx_ok γ) ?_
       obtain ⟨x15, f18, h⟩ := bindE h
       obtain ⟨f19, f20⟩ := ixL_nat f18
       have f21 : (0 : Int) ≤ (i3 : Int) := Int.natCast_nonneg _
       simp -implicitDefEqProofs only [go_sem, seval, f2, hi2, hi3, f19, f20, f21]
       refine X_seq ?_
       refine X_reg (lx_ok γ) ?_
       simp -implicitDefEqProofs only [go_sem, seval, f2, hi2, hi3]
       refine X_block ?_
       refine X_seq ?_
       refine X_reg (lx_ok γ) ?_
       simp -implicitDefEqProofs only [go_sem, seval, f2, hi2, hi3]
       cases f22 : (x15 == 78)
       ·rw [if_neg (ne_true_of_eq_false f22)] at h
        refine X_cond (lx_ok γ) ?_
        simp -implicitDefEqProofs only [go_sem, seval, f2, hi2, hi3, f22]
        refine X_seq ?_
        refine X_reg (lx_ok γ) ?_
        simp -implicitDefEqProofs only [go_sem, seval, f2, hi2, hi3, f22]
        cases f23 : (x15 == 77)
        ·rw [if_neg (ne_true_of_eq_false f23)] at h
         refine X_cond (lx_ok γ) ?_
         simp -implicitDefEqProofs only [go_sem, seval, f2, hi2, hi3, f22, f23]
         refine X_seq ?_
         refine X_reg (lx_ok γ) ?_
         simp -implicitDefEqProofs only [go_sem, seval, f2, hi2, hi3, f22, f23]
         cases f24 : (x15 == 110)
         ·rw [if_neg (ne_true_of_eq_false f24)] at h
          refine X_cond (lx_ok γ) ?_
          simp -implicitDefEqProofs only [go_sem, seval, f2, hi2, hi3, f22, f23, f24]
          refine X_seq ?_
          refine X_reg (lx_ok γ) ?_
          simp -implicitDefEqProofs only [go_sem, seval, f2, hi2, hi3, f22, f23, f24]
          cases f25 : (x15 == 76)
          ·rw [if_neg (ne_true_of_eq_false f25)] at h
           refine X_cond (lx_ok γ) ?_
           simp -implicitDefEqProofs only [go_sem, seval, f2, hi2, hi3, f22, f23, f24, f25]
           refine X_reg (lx_ok γ) ?_
           cases f26 : (x15 == 68)
           ·rw [if_neg (ne_true_of_eq_false f26)] at h
            cases f27 : (x15 == 65)
            ·rw [if_neg (ne_true_of_eq_false f27)] at h
             cases f28 : (x15 == 66)
             ·rw [if_neg (ne_true_of_eq_false f28)] at h
              have f29 : text_loc x8 x15 = some 7 := by simp only [text_loc, f2, hi2, hi3, f22, f23, f24, f25, f26, f27, f28, if_true, if_false, Bool.false_eq_true]
              simp -implicitDefEqProofs only [go_sem, seval, f2, hi2, hi3, f22, f23, f24, f25, f26, f27, f28]
              refine callV_eq (text_loc_ok γ _ (by simp -implicitDefEqProofs only [go_sem, seval, f2, hi2, hi3, f22, f23, f24, f25]; try rfl) f29) rfl rfl ?_
              obtain ⟨x16, f30, h⟩ := bindE h
              simp -implicitDefEqProofs only [go_sem, seval, f2, hi2, hi3, f22, f23, f24, f25, f26, f27, f28]
              refine callV_eq (text_number_ok γ _  f30) rfl rfl ?_
              obtain ⟨x17, f31, h⟩ := bindE h
              simp -implicitDefEqProofs only [go_sem, seval, f2, hi2, hi3, f22, f23, f24, f25, f26, f27, f28]
              refine callV_eq (varint_List_ok γ _ (by simp -implicitDefEqProofs only [go_sem, seval, f2, hi2, hi3, f22, f23, f24, f25, f26, f27, f28]; try rfl) f31) rfl rfl ?_
              obtain ⟨x18, f32, h⟩ := bindE h
              have f33 : List.length x18 ≤ 140737488355328 := by have := (appL_some f32).1; rw [(appL_some f32).2]; simpa using this
              have f34 : List.map (eI .u8) x13 ++ List.map (eI .u8) x17 = List.map (eI .u8) x18 := by rw [(appL_some f32).2]; simp [eB, eI, eS]
              have f35 : List.length x13 + List.length x17 = List.length x18 := by rw [(appL_some f32).2]; simp
              simp -implicitDefEqProofs only [go_sem, seval, f2, hi2, hi3, f22, f23, f24, f25, f26, f27, f28, f33, f34, f35]
              refine X_reg (lx_ok γ) ?_
              obtain rfl := Option.some.inj h
              simp -implicitDefEqProofs only [go_sem, seval, f2, hi2, hi3, f22, f23, f24, f25, f26, f27, f28]
              refine kR_in rfl ?_ ⟨rfl, rfl⟩
              exact To.mv [(0, 1), (1, 0)] (BaseR.refl hob) (by simp) (by decide) (by simp only [go_sem]; exact ⟨VM.rowL (j := 0) (t := 0) rfl (by first | rfl | simp | simp_all | omega), VM.refA (j := 1) (t := 1) rfl, VM.self (by simp), VM.self (by simp), VM.self (by simp), VM.self (by simp), VM.self (by simp), VM.eqv (by rw [hw3]) (by simp)⟩) ⟨⟨_, rfl, OM.row' (by first | rfl | simp_all)⟩, ⟨_, rfl, OM.box _ _ ⟨VM.self (by simp), VM.self (by simp), VM.self (by simp), VM.self (by simp), VM.self (by simp), VM.self (by simp), VM.self (by simp), VM.self (by simp), VM.self (by simp), VM.self (by simp), VM.self (by simp), VM.self (by simp), trivial⟩⟩, trivial⟩
             ·rw [if_pos f28] at h
              have f36 : text_loc x8 x15 = some 5 := by simp only [text_loc, f2, hi2, hi3, f22, f23, f24, f25, f26, f27, f28, if_true, if_false, Bool.false_eq_true]
              simp -implicitDefEqProofs only [go_sem, seval, f2, hi2, hi3, f22, f23, f24, f25, f26, f27, f28]
              refine callV_eq (text_loc_ok γ _ (by simp -implicitDefEqProofs only [go_sem, seval, f2, hi2, hi3, f22, f23, f24, f25]; try rfl) f36) rfl rfl ?_
              obtain ⟨x19, f37, h⟩ := bindE h
              simp -implicitDefEqProofs only [go_sem, seval, f2, hi2, hi3, f22, f23, f24, f25, f26, f27, f28]
              refine callV_eq (text_number_ok γ _  f37) rfl rfl ?_
              obtain ⟨x20, f38, h⟩ := bindE h
              simp -implicitDefEqProofs only [go_sem, seval, f2, hi2, hi3, f22, f23, f24, f25, f26, f27, f28]
              refine callV_eq (varint_List_ok γ _ (by simp -implicitDefEqProofs only [go_sem, seval, f2, hi2, hi3, f22, f23, f24, f25, f26, f27, f28]; try rfl) f38) rfl rfl ?_
              obtain ⟨x21, f39, h⟩ := bindE h
              have f40 : List.length x21 ≤ 140737488355328 := by have := (appL_some f39).1; rw [(appL_some f39).2]; simpa using this
              have f41 : List.map (eI .u8) x13 ++ List.map (eI .u8) x20 = List.map (eI .u8) x21 := by rw [(appL_some f39).2]; simp [eB, eI, eS]
              have f42 : List.length x13 + List.length x20 = List.length x21 := by rw [(appL_some f39).2]; simp
              simp -implicitDefEqProofs only [go_sem, seval, f2, hi2, hi3, f22, f23, f24, f25, f26, f27, f28, f40, f41, f42]
              refine X_reg (lx_ok γ) ?_
              obtain rfl := Option.some.inj h
              simp -implicitDefEqProofs only [go_sem, seval, f2, hi2, hi3, f22, f23, f24, f25, f26, f27, f28]
              refine kR_in rfl ?_ ⟨rfl, rfl⟩
              exact To.mv [(0, 1), (1, 0)] (BaseR.refl hob) (by simp) (by decide) (by simp only [go_sem]; exact ⟨VM.rowL (j := 0) (t := 0) rfl (by first | rfl | simp | simp_all | omega), VM.refA (j := 1) (t := 1) rfl, VM.self (by simp), VM.self (by simp), VM.self (by simp), VM.self (by simp), VM.self (by simp), VM.eqv (by rw [hw3]) (by simp)⟩) ⟨⟨_, rfl, OM.row' (by first | rfl | simp_all)⟩, ⟨_, rfl, OM.box _ _ ⟨VM.self (by simp), VM.self (by simp), VM.self (by simp), VM.self (by simp), VM.self (by simp), VM.self (by simp), VM.self (by simp), VM.self (by simp), VM.self (by simp), VM.self (by simp), VM.self (by simp), VM.self (by simp), trivial⟩⟩, trivial⟩
            ·rw [if_pos f27] at h
             have f43 : text_loc x8 x15 = some 3 := by simp only [text_loc, f2, hi2, hi3, f22, f23, f24, f25, f26, f27, if_true, if_false, Bool.false_eq_true]
             simp -implicitDefEqProofs only [go_sem, seval, f2, hi2, hi3, f22, f23, f24, f25, f26, f27]
             refine callV_eq (text_loc_ok γ _ (by simp -implicitDefEqProofs only [go_sem, seval, f2, hi2, hi3, f22, f23, f24, f25]; try rfl) f43) rfl rfl ?_
             obtain ⟨x22, f44, h⟩ := bindE h
             simp -implicitDefEqProofs only [go_sem, seval, f2, hi2, hi3, f22, f23, f24, f25, f26, f27]
             refine callV_eq (text_number_ok γ _  f44) rfl rfl ?_
             obtain ⟨x23, f45, h⟩ := bindE h
             simp -implicitDefEqProofs only [go_sem, seval, f2, hi2, hi3, f22, f23, f24, f25, f26, f27]
             refine callV_eq (varint_List_ok γ _ (by simp -implicitDefEqProofs only [go_sem, seval, f2, hi2, hi3, f22, f23, f24, f25, f26, f27]; try rfl) f45) rfl rfl ?_
             obtain ⟨x24, f46, h⟩ := bindE h
             have f47 : List.length x24 ≤ 140737488355328 := by have := (appL_some f46).1; rw [(appL_some f46).2]; simpa using this
             have f48 : List.map (eI .u8) x13 ++ List.map (eI .u8) x23 = List.map (eI .u8) x24 := by rw [(appL_some f46).2]; simp [eB, eI, eS]
             have f49 : List.length x13 + List.length x23 = List.length x24 := by rw [(appL_some f46).2]; simp
             simp -implicitDefEqProofs only [go_sem, seval, f2, hi2, hi3, f22, f23, f24, f25, f26, f27, f47, f48, f49]
             refine X_reg (lx_ok γ) ?_
             obtain rfl := Option.some.inj h
             simp -implicitDefEqProofs only [go_sem, seval, f2, hi2, hi3, f22, f23, f24, f25, f26, f27]
             refine kR_in rfl ?_ ⟨rfl, rfl⟩
             exact To.mv [(0, 1), (1, 0)] (BaseR.refl hob) (by simp) (by decide) (by simp only [go_sem]; exact ⟨VM.rowL (j := 0) (t := 0) rfl (by first | rfl | simp | simp_all | omega), VM.refA (j := 1) (t := 1) rfl, VM.self (by simp), VM.self (by simp), VM.self (by simp), VM.self (by simp), VM.self (by simp), VM.eqv (by rw [hw3]) (by simp)⟩) ⟨⟨_, rfl, OM.row' (by first | rfl | simp_all)⟩, ⟨_, rfl, OM.box _ _ ⟨VM.self (by simp), VM.self (by simp), VM.self (by simp), VM.self (by simp), VM.self (by simp), VM.self (by simp), VM.self (by simp), VM.self (by simp), VM.self (by simp), VM.self (by simp), VM.self (by simp), VM.self (by simp), trivial⟩⟩, trivial⟩
           ·rw [if_pos f26] at h
            have f50 : text_loc x8 x15 = some 1 := by simp only [text_loc, f2, hi2, hi3, f22, f23, f24, f25, f26, if_true, if_false, Bool.false_eq_true]
            simp -implicitDefEqProofs only [go_sem, seval, f2, hi2, hi3, f22, f23, f24, f25, f26]
            refine callV_eq (text_loc_ok γ _ (by simp -implicitDefEqProofs only [go_sem, seval, f2, hi2, hi3, f22, f23, f24, f25]; try rfl) f50) rfl rfl ?_
            obtain ⟨x25, f51, h⟩ := bindE h
            simp -implicitDefEqProofs only [go_sem, seval, f2, hi2, hi3, f22, f23, f24, f25, f26]
            refine callV_eq (text_number_ok γ _  f51) rfl rfl ?_
            obtain ⟨x26, f52, h⟩ := bindE h
            simp -implicitDefEqProofs only [go_sem, seval, f2, hi2, hi3, f22, f23, f24, f25, f26]
            refine callV_eq (varint_List_ok γ _ (by simp -implicitDefEqProofs only [go_sem, seval, f2, hi2, hi3, f22, f23, f24, f25, f26]; try rfl) f52) rfl rfl ?_
            obtain ⟨x27, f53, h⟩ := bindE h
            have f54 : List.length x27 ≤ 140737488355328 := by have := (appL_some f53).1; rw [(appL_some f53).2]; simpa using this
            have f55 : List.map (eI .u8) x13 ++ List.map (eI .u8) x26 = List.map (eI .u8) x27 := by rw [(appL_some f53).2]; simp [eB, eI, eS]
            have f56 : List.length x13 + List.length x26 = List.length x27 := by rw [(appL_some f53).2]; simp
            simp -implicitDefEqProofs only [go_sem, seval, f2, hi2, hi3, f22, f23, f24, f25, f26, f54, f55, f56]
            refine X_reg (lx_ok γ) ?_
            obtain rfl := Option.some.inj h
            simp -implicitDefEqProofs only [go_sem, seval, f2, hi2, hi3, f22, f23, f24, f25, f26]
            refine kR_in rfl ?_ ⟨rfl, rfl⟩
            exact To.mv [(0, 1), (1, 0)] (BaseR.refl hob) (by simp) (by decide) (by simp only [go_sem]; exact ⟨VM.rowL (j := 0) (t := 0) rfl (by first | rfl | simp | simp_all | omega), VM.refA (j := 1) (t := 1) rfl, VM.self (by simp), VM.self (by simp), VM.self (by simp), VM.self (by simp), VM.self (by simp), VM.eqv (by rw [hw3]) (by simp)⟩) ⟨⟨_, rfl, OM.row' (by first | rfl | simp_all)⟩, ⟨_, rfl, OM.box _ _ ⟨VM.self (by simp), VM.self (by simp), VM.self (by simp), VM.self (by simp), VM.self (by simp), VM.self (by simp), VM.self (by simp), VM.self (by simp), VM.self (by simp), VM.self (by simp), VM.self (by simp), VM.self (by simp), trivial⟩⟩, trivial⟩
          ·rw [if_pos f25] at h
           refine X_cond (lx_ok γ) ?_
           simp -implicitDefEqProofs only [go_sem, seval, f2, hi2, hi3, f22, f23, f24, f25]
           refine X_seq ?_
           refine X_reg (lx_ok γ) ?_
           obtain ⟨x28, f57, h⟩ := bindE h
           simp -implicitDefEqProofs only [go_sem, seval, f2, hi2, hi3, f22, f23, f24, f25]
           refine callV_eq (varint_List_ok γ _ (by simp -implicitDefEqProofs only [go_sem, seval, f2, hi2, hi3, f22, f23, f24, f25]; try rfl) f57) rfl rfl ?_
           obtain ⟨x29, f58, h⟩ := bindE h
           have f59 : List.length x29 ≤ 140737488355328 := by have := (appL_some f58).1; rw [(appL_some f58).2]; simpa using this
           have f60 : List.map (eI .u8) x13 ++ List.map (eI .u8) x28 = List.map (eI .u8) x29 := by rw [(appL_some f58).2]; simp [eB, eI, eS]
           have f61 : List.length x13 + List.length x28 = List.length x29 := by rw [(appL_some f58).2]; simp
           simp -implicitDefEqProofs only [go_sem, seval, f2, hi2, hi3, f22, f23, f24, f25, f59, f60, f61]
           refine X_seq ?_
           refine X_reg (lx_ok γ) ?_
           simp -implicitDefEqProofs only [go_sem, seval, f2, hi2, hi3, f22, f23, f24, f25]
           refine X_jq (J := fun as1 ob1 => ∃ (x30 : List Int), text_Encode.k4 x30 = some o3 ∧ [(4, V.row ob.length 0 0 (List.length x30)), (8, V.ref (ob.length + 1) 0), (49, V.tr (.sl 12 false (List.map e_Mins a0.Code))), (50, vint .i64 (List.length a0.Code : Int)), (51, vint .i64 (i2 : Int)), (68, V.tr (.sl 1 false (List.map (eI .u8) x12))), (69, vint .i64 (List.length x12 : Int)), (70, vint .i64 (i3 : Int))] = as1 ∧ ob ++ [some (O.row 1 0 (List.map (eI .u8) x30)), some (O.box [vint .i64 x8.Op, vint .i64 x8.D.Kind, vint .i64 x8.D.N, vint .i64 x8.A.Kind, vint .i64 x8.A.N, vint .i64 x8.B.Kind, vint .i64 x8.B.N, vint .i64 x8.C.Kind, vint .i64 x8.C.N, vint .i64 x8.N, vint .i64 x8.M, V.tr (.sl 2 false (List.map e_Loc x8.Args))])] = ob1) ?_ ?_
           ·rintro as1 ob1 ⟨x30, h, rfl, rfl⟩
            rw [text_Encode.k4] at h
            simp -implicitDefEqProofs only [go_sem, seval, f2, hi2, hi3, f22, f23, f24, f25]
            refine X_reg (lx_ok γ) ?_
            obtain rfl := Option.some.inj h
            simp -implicitDefEqProofs only [go_sem, seval, f2, hi2, hi3, f22, f23, f24, f25]
            refine kR_in rfl ?_ ⟨rfl, rfl⟩
            exact To.mv [(0, 0), (1, 0)] (BaseR.refl hob) (by simp) (by decide) (by simp only [go_sem]; exact ⟨VM.rowL (j := 0) (t := 0) rfl (by first | rfl | simp | simp_all | omega), VM.refA (j := 1) (t := 1) rfl, VM.self (by simp), VM.self (by simp), VM.self (by simp), VM.self (by simp), VM.self (by simp), VM.eqv (by rw [hw3]) (by simp)⟩) ⟨⟨_, rfl, OM.row' (by first | rfl | simp_all)⟩, ⟨_, rfl, OM.box _ _ ⟨VM.self (by simp), VM.self (by simp), VM.self (by simp), VM.self (by simp), VM.self (by simp), VM.self (by simp), VM.self (by simp), VM.self (by simp), VM.self (by simp), VM.self (by simp), VM.self (by simp), VM.self (by simp), trivial⟩⟩, trivial⟩
           ·refine X_block ?_
            obtain ⟨lr4, hl4, hk4, hr4⟩ := aft2 h
            refine X_forN hl4 (fun (i4 : Nat) (s : (List Int)) as1 ob1 => [(4, V.row ob.length 0 0 (List.length s)), (8, V.ref (ob.length + 1) 0), (49, V.tr (.sl 12 false (List.map e_Mins a0.Code))), (50, vint .i64 (List.length a0.Code : Int)), (51, vint .i64 (i2 : Int)), (68, V.tr (.sl 1 false (List.map (eI .u8) x12))), (69, vint .i64 (List.length x12 : Int)), (70, vint .i64 (i3 : Int)), (116, V.tr (.sl 2 false (List.map e_Loc x8.Args))), (117, vint .i64 (List.length x8.Args : Int)), (118, vint .i64 (i4 : Int))] = as1 ∧ ob ++ [some (O.row 1 0 (List.map (eI .u8) s)), some (O.box [vint .i64 x8.Op, vint .i64 x8.D.Kind, vint .i64 x8.D.N, vint .i64 x8.A.Kind, vint .i64 x8.A.N, vint .i64 x8.B.Kind, vint .i64 x8.B.N, vint .i64 x8.C.Kind, vint .i64 x8.C.N, vint .i64 x8.N, vint .i64 x8.M, V.tr (.sl 2 false (List.map e_Loc x8.Args))])] = ob1) ⟨_, _, ?_, rfl, rfl⟩ ?_ ?_
            ·exact To.mv [(0, 1), (1, 0)] (BaseR.refl hob) (by simp) (by decide) (by simp only [go_sem]; exact ⟨VM.rowL (j := 0) (t := 0) rfl (by first | rfl | simp | simp_all | omega), VM.refA (j := 1) (t := 1) rfl, VM.self (by simp), VM.self (by simp), VM.self (by simp), VM.self (by simp), VM.self (by simp), VM.self (by simp), VM.self (by simp), VM.self (by simp), VM.eqv (by simp) (by simp)⟩) ⟨⟨_, rfl, OM.row' (by first | rfl | simp_all)⟩, ⟨_, rfl, OM.box _ _ ⟨VM.self (by simp), VM.self (by simp), VM.self (by simp), VM.self (by simp), VM.self (by simp), VM.self (by simp), VM.self (by simp), VM.self (by simp), VM.self (by simp), VM.self (by simp), VM.self (by simp), VM.self (by simp), trivial⟩⟩, trivial⟩
            ·rintro i4 x30 o4 hi4 hw4 h ho4 as1 ob1 ⟨rfl, rfl⟩
             rw [text_Encode.b4] at h
             refine X_seq ?_
             refine X_reg (lx_ok γ) ?_
             simp -implicitDefEqProofs only [go_sem, seval, f2, hi2, hi3, f22, f23, f24, f25, hi4]
             refine X_seq ?_
             refine X_cond (lx_ok γ) ?_
             simp -implicitDefEqProofs only [go_sem, seval, f2, hi2, hi3, f22, f23, f24, f25, hi4]
             refine X_skip ?_
             try simp -implicitDefEqProofs only [go_sem]
             refine X_seq ?_
             refine X_block ?_
             refine X_seq ?_
             refine X_reg (lx_ok γ) ?_
             obtain ⟨x32, f62, h⟩ := bindE h
             obtain ⟨f63, f64⟩ := ixL_nat f62
             have f65 : (0 : Int) ≤ (i4 : Int) := Int.natCast_nonneg _
             simp -implicitDefEqProofs only [go_sem, seval, f2, hi2, hi3, f22, f23, f24, f25, hi4, f63, f64, f65]
             refine X_reg (lx_ok γ) ?_
             obtain ⟨x33, f66, h⟩ := bindE h
             simp -implicitDefEqProofs only [go_sem, seval, f2, hi2, hi3, f22, f23, f24, f25, hi4]
             refine callV_eq (text_number_ok γ _  f66) rfl rfl ?_
             obtain ⟨x34, f67, h⟩ := bindE h
             simp -implicitDefEqProofs only [go_sem, seval, f2, hi2, hi3, f22, f23, f24, f25, hi4]
             refine callV_eq (varint_List_ok γ _ (by simp -implicitDefEqProofs only [go_sem, seval, f2, hi2, hi3, f22, f23, f24, f25, hi4]; try rfl) f67) rfl rfl ?_
             obtain ⟨x35, f68, h⟩ := bindE h
             have f69 : List.length x35 ≤ 140737488355328 := by have := (appL_some f68).1; rw [(appL_some f68).2]; simpa using this
             have f70 : List.map (eI .u8) x30 ++ List.map (eI .u8) x34 = List.map (eI .u8) x35 := by rw [(appL_some f68).2]; simp [eB, eI, eS]
             have f71 : List.length x30 + List.length x34 = List.length x35 := by rw [(appL_some f68).2]; simp
             simp -implicitDefEqProofs only [go_sem, seval, f2, hi2, hi3, f22, f23, f24, f25, hi4, f69, f70, f71]
             refine X_reg (lx_ok γ) ?_
             obtain rfl := Option.some.inj h
             simp -implicitDefEqProofs only [go_sem, seval, f2, hi2, hi3, f22, f23, f24, f25, hi4]
             refine kR_in rfl ?_ ⟨rfl, rfl⟩
             exact To.mv [(0, 1), (1, 0)] (BaseR.refl hob) (by simp) (by decide) (by simp only [go_sem]; exact ⟨VM.rowL (j := 0) (t := 0) rfl (by first | rfl | simp | simp_all | omega), VM.refA (j := 1) (t := 1) rfl, VM.self (by simp), VM.self (by simp), VM.self (by simp), VM.self (by simp), VM.self (by simp), VM.self (by simp), VM.self (by simp), VM.self (by simp), VM.eqv (by rw [hw4]) (by simp)⟩) ⟨⟨_, rfl, OM.row' (by first | rfl | simp_all)⟩, ⟨_, rfl, OM.box _ _ ⟨VM.self (by simp), VM.self (by simp), VM.self (by simp), VM.self (by simp), VM.self (by simp), VM.self (by simp), VM.self (by simp), VM.self (by simp), VM.self (by simp), VM.self (by simp), VM.self (by simp), VM.self (by simp), trivial⟩⟩, trivial⟩
            ·rintro i4 x30 hi4 hn4 as1 ob1 ⟨rfl, rfl⟩
             refine X_seq ?_
             refine X_reg (lx_ok γ) ?_
             simp -implicitDefEqProofs only [go_sem, seval, f2, hi2, hi3, f22, f23, f24, f25, hi4]
             refine X_seq ?_
             refine X_cond (lx_ok γ) ?_
             simp -implicitDefEqProofs only [go_sem, seval, f2, hi2, hi3, f22, f23, f24, f25, hi4]
             have h := hk4 _ (.inl hn4)
             refine X_exit ?_
             try simp -implicitDefEqProofs only [go_sem, ↓reduceIte, Nat.reduceEqDiff, reduceCtorEq]
             refine kJ_in ?_ ⟨x30, h, rfl, rfl⟩
             exact To.mv [(0, 0), (1, 0)] (BaseR.refl hob) (by simp) (by decide) (by simp only [go_sem]; exact ⟨VM.rowL (j := 0) (t := 0) rfl (by first | rfl | simp | simp_all | omega), VM.refA (j := 1) (t := 1) rfl, VM.self (by simp), VM.self (by simp), VM.self (by simp), VM.self (by simp), VM.self (by simp), VM.self (by simp)⟩) ⟨⟨_, rfl, OM.row' (by first | rfl | simp_all)⟩, ⟨_, rfl, OM.box _ _ ⟨VM.self (by simp), VM.self (by simp), VM.self (by simp), VM.self (by simp), VM.self (by simp), VM.self (by simp), VM.self (by simp), VM.self (by simp), VM.self (by simp), VM.self (by simp), VM.self (by simp), VM.self (by simp), trivial⟩⟩, trivial⟩
         ·rw [if_pos f24] at h
          refine X_cond (lx_ok γ) ?_
          simp -implicitDefEqProofs only [go_sem, seval, f2, hi2, hi3, f22, f23, f24]
          refine X_reg (lx_ok γ) ?_
          obtain ⟨x36, f72, h⟩ := bindE h
          simp -implicitDefEqProofs only [go_sem, seval, f2, hi2, hi3, f22, f23, f24]
          refine callV_eq (Valid.frzR (b := ob) (l := [some (O.row 1 0 (List.map (eI .u8) x13)), some (O.box [vint .i64 x8.Op, vint .i64 x8.D.Kind, vint .i64 x8.D.N, vint .i64 x8.A.Kind, vint .i64 x8.A.N, vint .i64 x8.B.Kind, vint .i64 x8.B.N, vint .i64 x8.C.Kind, vint .i64 x8.C.N, vint .i64 x8.N, vint .i64 x8.M, V.tr (.sl 2 false (List.map e_Loc x8.Args))])]) (l' := [none, some (O.box [vint .i64 x8.Op, vint .i64 x8.D.Kind, vint .i64 x8.D.N, vint .i64 x8.A.Kind, vint .i64 x8.A.N, vint .i64 x8.B.Kind, vint .i64 x8.B.N, vint .i64 x8.C.Kind, vint .i64 x8.C.N, vint .i64 x8.N, vint .i64 x8.M, V.tr (.sl 2 false (List.map e_Loc x8.Args))])]) (args := [V.row ob.length 0 0 (List.length x13), vint .i64 x8.N]) (args' := [V.tr (.sl 1 false (List.map (eI .u8) x13)), vint .i64 x8.N]) 0 rfl rfl ⟨VZ.row (by first | rfl | simp), VZ.refl, trivial⟩ (varint_PutSigned_ok γ _  f72)) rfl rfl ?_
          simp -implicitDefEqProofs only [go_sem, seval, f2, hi2, hi3, f22, f23, f24]
          refine X_reg (lx_ok γ) ?_
          obtain rfl := Option.some.inj h
          simp -implicitDefEqProofs only [go_sem, seval, f2, hi2, hi3, f22, f23, f24]
          refine kR_in rfl ?_ ⟨rfl, rfl⟩
          exact To.mv [(2, 0), (1, 0)] (BaseR.refl hob) (by simp) (by decide) (by simp only [go_sem]; exact ⟨VM.rowL (j := 2) (t := 0) rfl (by first | rfl | simp | simp_all | omega), VM.refA (j := 1) (t := 1) rfl, VM.self (by simp), VM.self (by simp), VM.self (by simp), VM.self (by simp), VM.self (by simp), VM.eqv (by rw [hw3]) (by simp)⟩) ⟨⟨_, rfl, OM.row' (by first | rfl | simp_all)⟩, ⟨_, rfl, OM.box _ _ ⟨VM.self (by simp), VM.self (by simp), VM.self (by simp), VM.self (by simp), VM.self (by simp), VM.self (by simp), VM.self (by simp), VM.self (by simp), VM.self (by simp), VM.self (by simp), VM.self (by simp), VM.self (by simp), trivial⟩⟩, trivial⟩
        ·rw [if_pos f23] at h
         refine X_cond (lx_ok γ) ?_
         simp -implicitDefEqProofs only [go_sem, seval, f2, hi2, hi3, f22, f23]
         refine X_reg (lx_ok γ) ?_
         obtain ⟨x37, f73, h⟩ := bindE h
         simp -implicitDefEqProofs only [go_sem, seval, f2, hi2, hi3, f22, f23]
         refine callV_eq (varint_List_ok γ _ (by simp -implicitDefEqProofs only [go_sem, seval, f2, hi2, hi3, f22, f23]; try rfl) f73) rfl rfl ?_
         obtain ⟨x38, f74, h⟩ := bindE h
         have f75 : List.length x38 ≤ 140737488355328 := by have := (appL_some f74).1; rw [(appL_some f74).2]; simpa using this
         have f76 : List.map (eI .u8) x13 ++ List.map (eI .u8) x37 = List.map (eI .u8) x38 := by rw [(appL_some f74).2]; simp [eB, eI, eS]
         have f77 : List.length x13 + List.length x37 = List.length x38 := by rw [(appL_some f74).2]; simp
         simp -implicitDefEqProofs only [go_sem, seval, f2, hi2, hi3, f22, f23, f75, f76, f77]
         refine X_reg (lx_ok γ) ?_
         obtain rfl := Option.some.inj h
         simp -implicitDefEqProofs only [go_sem, seval, f2, hi2, hi3, f22, f23]
         refine kR_in rfl ?_ ⟨rfl, rfl⟩
         exact To.mv [(0, 1), (1, 0)] (BaseR.refl hob) (by simp) (by decide) (by simp only [go_sem]; exact ⟨VM.rowL (j := 0) (t := 0) rfl (by first | rfl | simp | simp_all | omega), VM.refA (j := 1) (t := 1) rfl, VM.self (by simp), VM.self (by simp), VM.self (by simp), VM.self (by simp), VM.self (by simp), VM.eqv (by rw [hw3]) (by simp)⟩) ⟨⟨_, rfl, OM.row' (by first | rfl | simp_all)⟩, ⟨_, rfl, OM.box _ _ ⟨VM.self (by simp), VM.self (by simp), VM.self (by simp), VM.self (by simp), VM.self (by simp), VM.self (by simp), VM.self (by simp), VM.self (by simp), VM.self (by simp), VM.self (by simp), VM.self (by simp), VM.self (by simp), trivial⟩⟩, trivial⟩
       ·rw [if_pos f22] at h
        refine X_cond (lx_ok γ) ?_
        simp -implicitDefEqProofs only [go_sem, seval, f2, hi2, hi3, f22]
        refine X_reg (lx_ok γ) ?_
        obtain ⟨x39, f78, h⟩ := bindE h
        simp -implicitDefEqProofs only [go_sem, seval, f2, hi2, hi3, f22]
        refine callV_eq (varint_List_ok γ _ (by simp -implicitDefEqProofs only [go_sem, seval, f2, hi2, hi3, f22]; try rfl) f78) rfl rfl ?_
        obtain ⟨x40, f79, h⟩ := bindE h
        have f80 : List.length x40 ≤ 140737488355328 := by have := (appL_some f79).1; rw [(appL_some f79).2]; simpa using this
        have f81 : List.map (eI .u8) x13 ++ List.map (eI .u8) x39 = List.map (eI .u8) x40 := by rw [(appL_some f79).2]; simp [eB, eI, eS]
        have f82 : List.length x13 + List.length x39 = List.length x40 := by rw [(appL_some f79).2]; simp
        simp -implicitDefEqProofs only [go_sem, seval, f2, hi2, hi3, f22, f80, f81, f82]
        refine X_reg (lx_ok γ) ?_
        obtain rfl := Option.some.inj h
        simp -implicitDefEqProofs only [go_sem, seval, f2, hi2, hi3, f22]
        refine kR_in rfl ?_ ⟨rfl, rfl⟩
        exact To.mv [(0, 1), (1, 0)] (BaseR.refl hob) (by simp) (by decide) (by simp only [go_sem]; exact ⟨VM.rowL (j := 0) (t := 0) rfl (by first | rfl | simp | simp_all | omega), VM.refA (j := 1) (t := 1) rfl, VM.self (by simp), VM.self (by simp), VM.self (by simp), VM.self (by simp), VM.self (by simp), VM.eqv (by rw [hw3]) (by simp)⟩) ⟨⟨_, rfl, OM.row' (by first | rfl | simp_all)⟩, ⟨_, rfl, OM.box _ _ ⟨VM.self (by simp), VM.self (by simp), VM.self (by simp), VM.self (by simp), VM.self (by simp), VM.self (by simp), VM.self (by simp), VM.self (by simp), VM.self (by simp), VM.self (by simp), VM.self (by simp), VM.self (by simp), trivial⟩⟩, trivial⟩
      ·rintro i3 x13 hi3 hn3 as1 ob1 ⟨rfl, rfl⟩
       refine X_seq ?_
       refine X_reg (lx_ok γ) ?_
       simp -implicitDefEqProofs only [go_sem, seval, f2, hi2, hi3]
       refine X_seq ?_
       refine X_cond (lx_ok γ) ?_
       simp -implicitDefEqProofs only [go_sem, seval, f2, hi2, hi3]
       have h := hk3 _ (.inl hn3)
       refine X_exit ?_
       try simp -implicitDefEqProofs only [go_sem, ↓reduceIte, Nat.reduceEqDiff, reduceCtorEq]
       refine kJ_in ?_ ⟨x13, h, rfl, rfl⟩
       exact To.mv [(0, 0)] (BaseR.refl hob) (by simp) (by decide) (by simp only [go_sem]; exact ⟨VM.rowL (j := 0) (t := 0) rfl (by first | rfl | simp | simp_all | omega), VM.self (by simp), VM.self (by simp), VM.self (by simp)⟩) ⟨⟨_, rfl, OM.row' (by first | rfl | simp_all)⟩, trivial⟩
    ·rintro i2 x6 hi2 hn2 as1 ob1 ⟨rfl, rfl⟩
     refine X_seq ?_
     refine X_reg (lx_ok γ) ?_
     simp -implicitDefEqProofs only [go_sem, seval, f2, hi2]
     refine X_seq ?_
     refine X_cond (lx_ok γ) ?_
     simp -implicitDefEqProofs only [go_sem, seval, f2, hi2]
     have h := hk2 _ (.inl hn2)
     refine X_exit ?_
     try simp -implicitDefEqProofs only [go_sem, ↓reduceIte, Nat.reduceEqDiff, reduceCtorEq]
     refine kJ_in ?_ ⟨x6, h, rfl, rfl⟩
     exact To.mv [(0, 0)] (BaseR.refl hob) (by simp) (by decide) (by simp only [go_sem]; exact VM.rowL (j := 0) (t := 0) rfl (by first | rfl | simp | simp_all | omega)) ⟨⟨_, rfl, OM.row' (by first | rfl | simp_all)⟩, trivial⟩
  ·refine X_block ?_
   obtain ⟨lr1, hl1, hk1, hr1⟩ := aft2 h
   refine X_forN hl1 (fun (i1 : Nat) (s : (List Int)) as1 ob1 => [(1, V.ref ob.length 0), (4, V.row (ob.length + 1) 0 0 (List.length s)), (24, V.row (ob.length + 2) 0 0 (List.length x3)), (25, vint .i64 (List.length x3 : Int)), (26, vint .i64 (i1 : Int))] = as1 ∧ ob ++ [some (O.box [V.tr (.sl 12 false (List.map e_Mins a0.Code)), V.tr (.sl 1 false (List.map (eI .i64) a0.Starts)), V.tr (.sl 1 false (List.map (eI .i64) a0.Slots))]), some (O.row 1 0 (List.map (eI .u8) s)), some (O.row 1 0 (List.map (eI .i64) x3))] = ob1) ⟨_, _, ?_, rfl, rfl⟩ ?_ ?_
   ·exact To.mv [(0, 0), (2, 0), (3, 0)] (BaseR.refl hob) (by simp) (by decide) (by simp only [go_sem]; exact ⟨VM.refA (j := 0) (t := 0) rfl, VM.rowL (j := 2) (t := 1) rfl (by first | rfl | simp | simp_all | omega), VM.rowL (j := 3) (t := 2) rfl (by first | rfl | simp | simp_all | omega), VM.self (by simp), VM.eqv (by simp) (by simp)⟩) ⟨⟨_, rfl, OM.box _ _ ⟨VM.self (by simp), VM.self (by simp), VM.self (by simp), trivial⟩⟩, ⟨_, rfl, OM.row' (by first | rfl | simp_all)⟩, ⟨_, rfl, OM.row' (by first | rfl | simp_all)⟩, trivial⟩
   ·rintro i1 x4 o1 hi1 hw1 h ho1 as1 ob1 ⟨rfl, rfl⟩
    rw [text_Encode.b1] at h
    refine X_seq ?_
    refine X_reg (lx_ok γ) ?_
    simp -implicitDefEqProofs only [go_sem, seval, f2, hi1]
    refine X_seq ?_
    refine X_cond (lx_ok γ) ?_
    simp -implicitDefEqProofs only [go_sem, seval, f2, hi1]
    refine X_skip ?_
    try simp -implicitDefEqProofs only [go_sem]
    refine X_seq ?_
    refine X_block ?_
    refine X_seq ?_
    refine X_reg (lx_ok γ) ?_
    obtain ⟨x41, f83, h⟩ := bindE h
    obtain ⟨f84, f85⟩ := ixL_nat f83
    have f86 : (0 : Int) ≤ (i1 : Int) := Int.natCast_nonneg _
    simp -implicitDefEqProofs only [go_sem, seval, f2, hi1, f84, f85, f86]
    refine X_drawn (lx_ok γ) [[], [], [1], [], [1, 2, 3], [1, 2, 3, 4], [], [], [7], [], [7, 8, 9], [7, 8, 9, 10], [6, 7, 8, 9, 10, 11], [1, 2, 3, 4, 5, 6, 7, 8, 9, 10, 11, 12], [1, 2, 3, 4, 5, 6, 7, 8, 9, 10, 11, 12, 13], [0, 1, 2, 3, 4, 5, 6, 7, 8, 9, 10, 11, 12, 13, 14], [0, 1, 2, 3, 4, 5, 6, 7, 8, 9, 10, 11, 12, 13, 14, 15]] (fun i => match i with | 14 => true | 15 => true | _ => false) (by kernel_rfl) ?_
    obtain ⟨x42, f87, h⟩ := bindE h
    obtain ⟨f88, f89⟩ := ixL_nat f87
    have f90 : (0 : Int) ≤ (i1 : Int) := Int.natCast_nonneg _
    obtain ⟨x43, f91, h⟩ := bindE h
    obtain ⟨f92, f93⟩ := ixL_nat f91
    have f94 : (0 : Int) ≤ (i1 : Int) := Int.natCast_nonneg _
    obtain ⟨x44, f95, h⟩ := bindE h
    try simp -implicitDefEqProofs only [go_sem, seval, f2, hi1, f88, f89, f90, f92, f93, f94, cmpr, List.getD_cons_zero, List.getD_cons_succ, List.contains_cons, List.contains_nil, Nat.reduceBEq, Bool.false_or, Bool.or_false, Bool.true_or, Bool.or_true, beq_self_eq_true]
    refine callV_eq (varint_List_ok γ _ (by simp -implicitDefEqProofs only [go_sem, seval, f2, hi1, f88, f89, f90, f92, f93, f94]; try rfl) f95) rfl rfl ?_
    obtain ⟨x45, f96, h⟩ := bindE h
    have f97 : List.length x45 ≤ 140737488355328 := by have := (appL_some f96).1; rw [(appL_some f96).2]; simpa using this
    have f98 : List.map (eI .u8) x4 ++ List.map (eI .u8) x44 = List.map (eI .u8) x45 := by rw [(appL_some f96).2]; simp [eB, eI, eS]
    have f99 : List.length x4 + List.length x44 = List.length x45 := by rw [(appL_some f96).2]; simp
    try simp -implicitDefEqProofs only [go_sem, seval, f2, hi1, f88, f89, f90, f92, f93, f94, f97, f98, f99, cmpr, List.getD_cons_zero, List.getD_cons_succ, List.contains_cons, List.contains_nil, Nat.reduceBEq, Bool.false_or, Bool.or_false, Bool.true_or, Bool.or_true, beq_self_eq_true]
    refine X_reg (lx_ok γ) ?_
    obtain rfl := Option.some.inj h
    simp -implicitDefEqProofs only [go_sem, seval, f2, hi1]
    refine kR_in rfl ?_ ⟨rfl, rfl⟩
    exact To.mv [(0, 0), (1, 1), (2, 0)] (BaseR.refl hob) (by simp) (by decide) (by simp only [go_sem]; exact ⟨VM.refA (j := 0) (t := 0) rfl, VM.rowL (j := 1) (t := 1) rfl (by first | rfl | simp | simp_all | omega), VM.rowL (j := 2) (t := 2) rfl (by first | rfl | simp | simp_all | omega), VM.self (by simp), VM.eqv (by rw [hw1]) (by simp)⟩) ⟨⟨_, rfl, OM.box _ _ ⟨VM.self (by simp), VM.self (by simp), VM.self (by simp), trivial⟩⟩, ⟨_, rfl, OM.row' (by first | rfl | simp_all)⟩, ⟨_, rfl, OM.row' (by first | rfl | simp_all)⟩, trivial⟩
   ·rintro i1 x4 hi1 hn1 as1 ob1 ⟨rfl, rfl⟩
    refine X_seq ?_
    refine X_reg (lx_ok γ) ?_
    simp -implicitDefEqProofs only [go_sem, seval, f2, hi1]
    refine X_seq ?_
    refine X_cond (lx_ok γ) ?_
    simp -implicitDefEqProofs only [go_sem, seval, f2, hi1]
    have h := hk1 _ (.inl hn1)
    refine X_exit ?_
    try simp -implicitDefEqProofs only [go_sem, ↓reduceIte, Nat.reduceEqDiff, reduceCtorEq]
    refine kJ_in ?_ ⟨x4, h, rfl, rfl⟩
    exact To.mv [(0, 0), (1, 0)] (BaseR.refl hob) (by simp) (by decide) (by simp only [go_sem]; exact ⟨VM.refA (j := 0) (t := 0) rfl, VM.rowL (j := 1) (t := 1) rfl (by first | rfl | simp | simp_all | omega)⟩) ⟨⟨_, rfl, OM.box _ _ ⟨VM.self (by simp), VM.self (by simp), VM.self (by simp), trivial⟩⟩, ⟨_, rfl, OM.row' (by first | rfl | simp_all)⟩, trivial⟩
end Go.Pf
end
section
set_option maxRecDepth 100000
namespace Go.Pf
open Go Go.Ab Go.Pp Go.Proofs Go.Proofs.S19
attribute [local go_sem] Lxτ Lxγ gam0 Int.toNat_natCast tau3 tau5 tau28 eI eB eS e_Loc e_Mins e_Text e_text_room e_text_reader e_portolanref19_reader
set_option maxHeartbeats 1000000 in
theorem portolanref01_Same_ok (γ : GT) (ob : OT) {a0 : List Int} {v0 : V} {a1 : List Int} {v1 : V} (hv0 : rdK (getO ob) 1 v0 = some (List.map (eI .u8) a0)) (hv1 : rdK (getO ob) 1 v1 = some (List.map (eI .u8) a1)) {r : Bool} (h : portolanref01_Same a0 a1 = some r) :
  Valid (Lx γ) 14 [v0, v1] ob (vbool r) ob := by
 refine valid_X (lx_ok γ) (fn := Tryd.f14) (rs := [.tmp 4]) Tryd.func14 (by kernel_rfl) rfl rfl Tryd.ntmps14 rfl (by simp) fun hb hob => ?_
 have hq := And.intro (rd4 hv0) (rd4 hv1)
 rw [portolanref01_Same] at h
 refine X_seq ?_
 refine X_reg (lx_ok γ) ?_
 simp -implicitDefEqProofs only [go_sem, seval, hq]
 refine X_seq ?_
 refine X_seq ?_
 refine X_reg (lx_ok γ) ?_
 simp -implicitDefEqProofs only [go_sem, seval, hq]
 cases f1 : ((List.length a0 : Int) != (List.length a1 : Int))
 ·rw [if_neg (ne_true_of_eq_false f1)] at h
  refine X_cond (lx_ok γ) ?_
  simp -implicitDefEqProofs only [go_sem, seval, f1, hq]
  refine X_skip ?_
  try simp -implicitDefEqProofs only [go_sem]
  refine X_seq ?_
  refine X_seq ?_
  refine X_reg (lx_ok γ) ?_
  simp -implicitDefEqProofs only [go_sem, seval, f1, hq]
  refine X_jq (J := fun as1 ob1 => portolanref01_Same.k1 = some r ∧ [] = as1 ∧ ob = ob1) ?_ ?_
  ·rintro as1 ob1 ⟨h, rfl, rfl⟩
   rw [portolanref01_Same.k1] at h
   simp -implicitDefEqProofs only [go_sem, seval, f1, hq]
   refine X_seq ?_
   refine X_reg (lx_ok γ) ?_
   simp -implicitDefEqProofs only [go_sem, seval, f1, hq]
   obtain rfl := Option.some.inj h
   refine X_ret ?_
   simp -implicitDefEqProofs only [go_sem, seval, f1, hq]
   exact Rt.mv1 (BaseR.refl hob) (by simp) (VM.self (by simp))
  ·refine X_block ?_
   obtain ⟨lr1, hl1, hk1, hr1⟩ := aft2 h
   refine X_forN hl1 (fun (i1 : Nat) (s : Unit) as1 ob1 => [(0, v0), (1, v1), (5, vint .i64 (i1 : Int))] = as1 ∧ ob = ob1) ⟨_, _, ?_, rfl, rfl⟩ ?_ ?_
   ·exact To.mv1 (BaseR.refl hob) (by simp) (by simp only [go_sem]; exact ⟨VM.self (by simpa using Bd.of_rdK hv0), VM.self (by simpa using Bd.of_rdK hv1), VM.eqv (by simp) (by simp)⟩)
   ·rintro i1 _ o1 hi1 hw1 h ho1 as1 ob1 ⟨rfl, rfl⟩
    rw [portolanref01_Same.b1] at h
    refine X_seq ?_
    refine X_seq ?_
    refine X_reg (lx_ok γ) ?_
    simp -implicitDefEqProofs only [go_sem, seval, f1, hi1, hq]
    refine X_cond (lx_ok γ) ?_
    simp -implicitDefEqProofs only [go_sem, seval, f1, hi1, hq]
    refine X_skip ?_
    try simp -implicitDefEqProofs only [go_sem]
    refine X_seq ?_
    refine X_block ?_
    refine X_seq ?_
    refine X_drawn (lx_ok γ) [[], [], [0, 1], [0, 1, 2], [], [], [4, 5], [4, 5, 6], [0, 1, 2, 3, 4, 5, 6, 7]] (fun i => match i with | _ => false) (by kernel_rfl) ?_
    obtain ⟨x2, f2, h⟩ := bindE h
    obtain ⟨f3, f4⟩ := ixL_nat f2
    have f5 : (0 : Int) ≤ (i1 : Int) := Int.natCast_nonneg _
    obtain ⟨x3, f6, h⟩ := bindE h
    obtain ⟨f7, f8⟩ := ixL_nat f6
    have f9 : (0 : Int) ≤ (i1 : Int) := Int.natCast_nonneg _
    try simp -implicitDefEqProofs only [go_sem, seval, f1, hi1, hq, f3, f4, f5, f7, f8, f9, cmpr, List.getD_cons_zero, List.getD_cons_succ, List.contains_cons, List.contains_nil, Nat.reduceBEq, Bool.false_or, Bool.or_false, Bool.true_or, Bool.or_true, beq_self_eq_true]
    cases f10 : (x2 != x3)
    ·rw [if_neg (ne_true_of_eq_false f10)] at h
     refine X_cond (lx_ok γ) ?_
     simp -implicitDefEqProofs only [go_sem, seval, f1, hi1, f10, hq, f3, f4, f5, f7, f8, f9]
     refine X_skip ?_
     try simp -implicitDefEqProofs only [go_sem]
     refine X_reg (lx_ok γ) ?_
     obtain rfl := Option.some.inj h
     simp -implicitDefEqProofs only [go_sem, seval, f1, hi1, f10, hq]
     refine kR_in rfl ?_ ⟨rfl, rfl⟩
     exact To.mv1 (BaseR.refl hob) (by simp) (by simp only [go_sem]; exact ⟨VM.self (by simpa using Bd.of_rdK hv0), VM.self (by simpa using Bd.of_rdK hv1), VM.eqv (by rw [hw1]) (by simp)⟩)
    ·rw [if_pos f10] at h
     refine X_cond (lx_ok γ) ?_
     simp -implicitDefEqProofs only [go_sem, seval, f1, hi1, f10, hq, f3, f4, f5, f7, f8, f9]
     refine X_seq ?_
     refine X_reg (lx_ok γ) ?_
     simp -implicitDefEqProofs only [go_sem, seval, f1, hi1, f10, hq]
     obtain rfl := Option.some.inj h
     have h := hr1 _ (ho1 (fun _ hs => nomatch hs))
     obtain rfl := Option.some.inj h
     refine X_ret ?_
     simp -implicitDefEqProofs only [go_sem, seval, f1, hi1, f10, hq]
     exact Rt.mv1 (BaseR.refl hob) (by simp) (VM.self (by simp))
   ·rintro i1 _ hi1 hn1 as1 ob1 ⟨rfl, rfl⟩
    refine X_seq ?_
    refine X_seq ?_
    refine X_reg (lx_ok γ) ?_
    simp -implicitDefEqProofs only [go_sem, seval, f1, hi1, hq]
    refine X_cond (lx_ok γ) ?_
    simp -implicitDefEqProofs only [go_sem, seval, f1, hi1, hq]
    have h := hk1 _ (.inl hn1)
    refine X_exit ?_
    try simp -implicitDefEqProofs only [go_sem, ↓reduceIte, Nat.reduceEqDiff, reduceCtorEq]
    refine kJ_in ?_ ⟨h, rfl, rfl⟩
    exact To.mv1 (BaseR.refl hob) (by simp) trivial
 ·rw [if_pos f1] at h
  refine X_cond (lx_ok γ) ?_
  simp -implicitDefEqProofs only [go_sem, seval, f1, hq]
  refine X_seq ?_
  refine X_reg (lx_ok γ) ?_
  simp -implicitDefEqProofs only [go_sem, seval, f1, hq]
  obtain rfl := Option.some.inj h
  refine X_ret ?_
  simp -implicitDefEqProofs only [go_sem, seval, f1, hq]
  exact Rt.mv1 (BaseR.refl hob) (by simp) (VM.self (by simp))
end Go.Pf
end
section
set_option maxRecDepth 100000
namespace Go.Pf
open Go Go.Ab Go.Pp Go.Proofs Go.Proofs.S19
attribute [local go_sem] Lxτ Lxγ gam0 Int.toNat_natCast tau3 eI eB eS e_Loc e_Mins e_Text e_text_room e_text_reader e_portolanref19_reader
set_option maxHeartbeats 1000000 in
theorem cmp_isNaN_int_ok (γ : GT) (ob : OT) {a0 : Int} {r : Bool} (h : cmp_isNaN_int a0 = some r) :
  Valid (Lx γ) 77 [vint .i64 a0] ob (vbool r) ob := by
 refine valid_X (lx_ok γ) (fn := Tryd.f77) (rs := [.tmp 2]) Tryd.func77 (by kernel_rfl) rfl rfl Tryd.ntmps77 rfl (by simp) fun hb hob => ?_
 rw [cmp_isNaN_int] at h
 refine X_seq ?_
 refine X_reg (lx_ok γ) ?_
 simp -implicitDefEqProofs only [go_sem, seval]
 refine X_seq ?_
 refine X_reg (lx_ok γ) ?_
 simp -implicitDefEqProofs only [go_sem, seval]
 obtain rfl := Option.some.inj h
 refine X_ret ?_
 simp -implicitDefEqProofs only [go_sem, seval]
 exact Rt.mv1 (BaseR.refl hob) (by simp) (VM.self (by simp))
end Go.Pf
end
section
set_option maxRecDepth 100000
namespace Go.Pf
open Go Go.Ab Go.Pp Go.Proofs Go.Proofs.S19
attribute [local go_sem] Lxτ Lxγ gam0 Int.toNat_natCast tau3 tau4 eI eB eS e_Loc e_Mins e_Text e_text_room e_text_reader e_portolanref19_reader
set_option maxHeartbeats 1000000 in
theorem cmp_Less_int_ok (γ : GT) (ob : OT) {a0 : Int} {a1 : Int} {r : Bool} (h : cmp_Less_int a0 a1 = some r) :
  Valid (Lx γ) 62 [vint .i64 a0, vint .i64 a1] ob (vbool r) ob := by
 refine valid_X (lx_ok γ) (fn := Tryd.f62) (rs := [.tmp 4]) Tryd.func62 (by kernel_rfl) rfl rfl Tryd.ntmps62 rfl (by simp) fun hb hob => ?_
 rw [cmp_Less_int] at h
 refine X_seq ?_
 refine X_reg (lx_ok γ) ?_
 simp -implicitDefEqProofs only [go_sem, seval]
 refine X_seq ?_
 refine X_reg (lx_ok γ) ?_
 obtain ⟨x1, f1, h⟩ := bindE h
 simp -implicitDefEqProofs only [go_sem, seval]
 refine callV_eq (cmp_isNaN_int_ok γ _  f1) rfl rfl ?_
 cases f2 : x1
 ·rw [if_neg (ne_true_of_eq_false f2)] at h
  simp -implicitDefEqProofs only [go_sem, seval, f2]
  obtain rfl := Option.some.inj h
  refine X_ret ?_
  simp -implicitDefEqProofs only [go_sem, seval, f2]
  exact Rt.mv1 (BaseR.refl hob) (by simp) (VM.self (by simp))
 ·rw [if_pos f2] at h
  obtain ⟨x2, f3, h⟩ := bindE h
  simp -implicitDefEqProofs only [go_sem, seval, f2]
  refine callV_eq (cmp_isNaN_int_ok γ _  f3) rfl rfl ?_
  cases f4 : x2
  ·rw [if_neg (ne_true_of_eq_false f4)] at h
   simp -implicitDefEqProofs only [go_sem, seval, f2, f4]
   obtain rfl := Option.some.inj h
   refine X_ret ?_
   simp -implicitDefEqProofs only [go_sem, seval, f2, f4]
   exact Rt.mv1 (BaseR.refl hob) (by simp) (VM.self (by simp))
  ·rw [if_pos f4] at h
   simp -implicitDefEqProofs only [go_sem, seval, f2, f4]
   obtain rfl := Option.some.inj h
   refine X_ret ?_
   simp -implicitDefEqProofs only [go_sem, seval, f2, f4]
   exact Rt.mv1 (BaseR.refl hob) (by simp) (VM.self (by simp))
end Go.Pf
end
section
set_option maxRecDepth 100000
namespace Go.Pf
open Go Go.Ab Go.Pp Go.Proofs Go.Proofs.S19
attribute [local go_sem] Lxτ Lxγ gam0 Int.toNat_natCast tau3 eI eB eS e_Loc e_Mins e_Text e_text_room e_text_reader e_portolanref19_reader
set_option maxHeartbeats 1000000 in
theorem slices_isNaN_int_ok (γ : GT) (ob : OT) {a0 : Int} {r : Bool} (h : slices_isNaN_int a0 = some r) :
  Valid (Lx γ) 63 [vint .i64 a0] ob (vbool r) ob := by
 refine valid_X (lx_ok γ) (fn := Tryd.f63) (rs := [.tmp 2]) Tryd.func63 (by kernel_rfl) rfl rfl Tryd.ntmps63 rfl (by simp) fun hb hob => ?_
 rw [slices_isNaN_int] at h
 refine X_seq ?_
 refine X_reg (lx_ok γ) ?_
 simp -implicitDefEqProofs only [go_sem, seval]
 refine X_seq ?_
 refine X_reg (lx_ok γ) ?_
 simp -implicitDefEqProofs only [go_sem, seval]
 obtain rfl := Option.some.inj h
 refine X_ret ?_
 simp -implicitDefEqProofs only [go_sem, seval]
 exact Rt.mv1 (BaseR.refl hob) (by simp) (VM.self (by simp))
end Go.Pf
end
section
set_option maxRecDepth 100000
namespace Go.Pf
open Go Go.Ab Go.Pp Go.Proofs Go.Proofs.S19
attribute [local go_sem] Lxτ Lxγ gam0 Int.toNat_natCast tau3 tau23 tau80 eI eB eS e_Loc e_Mins e_Text e_text_room e_text_reader e_portolanref19_reader
set_option maxHeartbeats 1000000 in
theorem slices_BinarySearch_int_ok (γ : GT) (ob : OT) {a0 : List Int} {v0 : V} {a1 : Int} (hv0 : rdK (getO ob) 1 v0 = some (List.map (eI .i64) a0)) {r : Int × Bool} (h : slices_BinarySearch_int a0 a1 = some r) :
  Valid (Lx γ) 39 [v0, vint .i64 a1] ob (V.tup [vint .i64 r.1, vbool r.2]) ob := by
 refine valid_X (lx_ok γ) (fn := Tryd.f39) (rs := [.tmp 4, .tmp 5]) Tryd.func39 (by kernel_rfl) rfl rfl Tryd.ntmps39 rfl (by simp) fun hb hob => ?_
 have hq := rd4 hv0
 rw [slices_BinarySearch_int] at h
 refine X_seq ?_
 refine X_reg (lx_ok γ) ?_
 simp -implicitDefEqProofs only [go_sem, seval, hq]
 refine X_seq ?_
 refine X_reg (lx_ok γ) ?_
 simp -implicitDefEqProofs only [go_sem, seval, hq]
 refine X_seq ?_
 refine X_reg (lx_ok γ) ?_
 simp -implicitDefEqProofs only [go_sem, seval, hq]
 refine X_seq ?_
 refine X_jq (J := fun as1 ob1 => ∃ (x1 : Int), slices_BinarySearch_int.k1 a0 a1 x1 = some r ∧ [(0, v0), (1, vint .i64 a1), (6, vint .i64 (List.length a0 : Int)), (7, vint .i64 x1)] = as1 ∧ ob = ob1) ?_ ?_
 ·rintro as1 ob1 ⟨x1, h, rfl, rfl⟩
  rw [slices_BinarySearch_int.k1] at h
  simp -implicitDefEqProofs only [go_sem, seval, hq]
  refine X_seq ?_
  refine X_reg (lx_ok γ) ?_
  cases f1 : decide (x1 < (List.length a0 : Int))
  ·rw [if_neg (ne_true_of_eq_false f1)] at h
   simp -implicitDefEqProofs only [go_sem, seval, f1, hq]
   obtain rfl := Option.some.inj h
   refine X_ret ?_
   simp -implicitDefEqProofs only [go_sem, seval, f1, hq]
   exact Rt.mv1 (BaseR.refl hob) (by simp) (VM.tup ⟨VM.self (by simp), VM.self (by simp), trivial⟩)
  ·rw [if_pos f1] at h
   obtain ⟨x3, f2, h⟩ := bindE h
   obtain ⟨f3, f4, f5⟩ := ixL_some f2
   try simp only [Int.toNat_natCast, Int.reduceToNat] at f5
   cases f6 : (x3 == a1)
   ·rw [if_neg (ne_true_of_eq_false f6)] at h
    obtain ⟨x4, f7, h⟩ := bindE h
    simp -implicitDefEqProofs only [go_sem, seval, f1, f6, hq, f3, f4, f5]
    refine callV_eq (slices_isNaN_int_ok γ _  f7) rfl rfl ?_
    cases f8 : x4
    ·rw [if_neg (ne_true_of_eq_false f8)] at h
     simp -implicitDefEqProofs only [go_sem, seval, f1, f6, f8, hq, f3, f4, f5]
     obtain rfl := Option.some.inj h
     refine X_ret ?_
     simp -implicitDefEqProofs only [go_sem, seval, f1, f6, f8, hq, f3, f4, f5]
     exact Rt.mv1 (BaseR.refl hob) (by simp) (VM.tup ⟨VM.self (by simp), VM.self (by simp), trivial⟩)
    ·rw [if_pos f8] at h
     obtain ⟨x5, f9, h⟩ := bindE h
     simp -implicitDefEqProofs only [go_sem, seval, f1, f6, f8, hq, f3, f4, f5]
     refine callV_eq (slices_isNaN_int_ok γ _  f9) rfl rfl ?_
     simp -implicitDefEqProofs only [go_sem, seval, f1, f6, f8, hq, f3, f4, f5]
     obtain rfl := Option.some.inj h
     refine X_ret ?_
     simp -implicitDefEqProofs only [go_sem, seval, f1, f6, f8, hq, f3, f4, f5]
     exact Rt.mv1 (BaseR.refl hob) (by simp) (VM.tup ⟨VM.self (by simp), VM.self (by simp), trivial⟩)
   ·rw [if_pos f6] at h
    simp -implicitDefEqProofs only [go_sem, seval, f1, f6, hq, f3, f4, f5]
    obtain rfl := Option.some.inj h
    refine X_ret ?_
    simp -implicitDefEqProofs only [go_sem, seval, f1, f6, hq, f3, f4, f5]
    exact Rt.mv1 (BaseR.refl hob) (by simp) (VM.tup ⟨VM.self (by simp), VM.self (by simp), trivial⟩)
 ·refine X_block ?_
  obtain ⟨lr1, hl1, hk1, hr1⟩ := aft2 h
  refine X_while hl1 (fun (s : Int × Int) as1 ob1 => [(0, v0), (1, vint .i64 a1), (6, vint .i64 (List.length a0 : Int)), (7, vint .i64 s.1), (8, vint .i64 s.2)] = as1 ∧ ob = ob1) ⟨_, _, ?_, rfl, rfl⟩ ?_
  ·exact To.mv1 (BaseR.refl hob) (by simp) (by simp only [go_sem]; exact ⟨VM.self (by simpa using Bd.of_rdK hv0), VM.self (by simp), VM.self (by simp), VM.self (by simp), VM.self (by simp)⟩)
  ·rintro ⟨x1, x2⟩ o1 h ho1 as1 ob1 ⟨rfl, rfl⟩
   rw [slices_BinarySearch_int.b1] at h
   refine X_seq ?_
   refine X_seq ?_
   refine X_reg (lx_ok γ) ?_
   simp -implicitDefEqProofs only [go_sem, seval, hq]
   cases f10 : decide (x1 < x2)
   ·rw [if_neg (ne_true_of_eq_false f10)] at h
    refine X_cond (lx_ok γ) ?_
    simp -implicitDefEqProofs only [go_sem, seval, f10, hq]
    obtain rfl := Option.some.inj h
    have h := hk1 _ (.inr (ho1 (fun _ hs => nomatch hs)))
    refine X_exit ?_
    try simp -implicitDefEqProofs only [go_sem, ↓reduceIte, Nat.reduceEqDiff, reduceCtorEq]
    refine kJ_in ?_ ⟨x1, h, rfl, rfl⟩
    exact To.mv1 (BaseR.refl hob) (by simp) (by simp only [go_sem]; exact ⟨VM.self (by simpa using Bd.of_rdK hv0), VM.self (by simp), VM.self (by simp), VM.self (by simp)⟩)
   ·rw [if_pos f10] at h
    refine X_cond (lx_ok γ) ?_
    simp -implicitDefEqProofs only [go_sem, seval, f10, hq]
    refine X_skip ?_
    try simp -implicitDefEqProofs only [go_sem]
    refine X_block ?_
    refine X_seq ?_
    refine X_reg (lx_ok γ) ?_
    simp -implicitDefEqProofs only [go_sem, seval, f10, hq]
    refine X_seq ?_
    refine X_reg (lx_ok γ) ?_
    obtain ⟨x6, f11, h⟩ := bindE h
    obtain ⟨f12, f13, f14⟩ := ixL_some f11
    try simp only [Int.toNat_natCast, Int.reduceToNat] at f14
    obtain ⟨x7, f15, h⟩ := bindE h
    simp -implicitDefEqProofs only [go_sem, seval, f10, hq, f12, f13, f14]
    refine callV_eq (cmp_Less_int_ok γ _  f15) rfl rfl ?_
    simp -implicitDefEqProofs only [go_sem, seval, f10, hq, f12, f13, f14]
    cases f16 : x7
    ·rw [if_neg (ne_true_of_eq_false f16)] at h
     refine X_cond (lx_ok γ) ?_
     simp -implicitDefEqProofs only [go_sem, seval, f10, f16, hq, f12, f13, f14]
     refine X_reg (lx_ok γ) ?_
     obtain rfl := Option.some.inj h
     simp -implicitDefEqProofs only [go_sem, seval, f10, f16, hq]
     refine kR_in rfl ?_ ⟨rfl, rfl⟩
     exact To.mv1 (BaseR.refl hob) (by simp) (by simp only [go_sem]; exact ⟨VM.self (by simpa using Bd.of_rdK hv0), VM.self (by simp), VM.self (by simp), VM.self (by simp), VM.self (by simp)⟩)
    ·rw [if_pos f16] at h
     refine X_cond (lx_ok γ) ?_
     simp -implicitDefEqProofs only [go_sem, seval, f10, f16, hq, f12, f13, f14]
     refine X_reg (lx_ok γ) ?_
     obtain rfl := Option.some.inj h
     simp -implicitDefEqProofs only [go_sem, seval, f10, f16, hq]
     refine kR_in rfl ?_ ⟨rfl, rfl⟩
     exact To.mv1 (BaseR.refl hob) (by simp) (by simp only [go_sem]; exact ⟨VM.self (by simpa using Bd.of_rdK hv0), VM.self (by simp), VM.self (by simp), VM.self (by simp), VM.self (by simp)⟩)
end Go.Pf
end
section
set_option maxRecDepth 100000
namespace Go.Pf
open Go Go.Ab Go.Pp Go.Proofs Go.Proofs.S19
attribute [local go_sem] Lxτ Lxγ gam0 Int.toNat_natCast tau3 tau4 tau22 tau23 tau25 tau46 tau47 tau49 eI eB eS e_Loc e_Mins e_Text e_text_room e_text_reader e_portolanref19_reader
set_option maxHeartbeats 1000000 in
theorem text_In_ok (γ : GT) (ob : OT) {a0 : Text} {v0_0 : V} {v0_1 : V} {v0_2 : V} {a1 : Int} (hv0_0 : rdK (getO ob) 12 v0_0 = some (List.map e_Mins a0.Code)) (hv0_1 : rdK (getO ob) 1 v0_1 = some (List.map (eI .i64) a0.Starts)) (hv0_2 : rdK (getO ob) 1 v0_2 = some (List.map (eI .i64) a0.Slots)) {r : Int} (h : text_In a0 a1 = some r) :
  Valid (Lx γ) 17 [V.agg [v0_0, v0_1, v0_2], vint .i64 a1] ob (vint .i64 r) ob := by
 refine valid_X (lx_ok γ) (fn := Tryd.f17) (rs := [.tmp 4]) Tryd.func17 (by kernel_rfl) rfl rfl Tryd.ntmps17 rfl (by simp) fun hb hob => ?_
 have hq := And.intro (rd4 hv0_0) (And.intro (rd4 hv0_1) (rd4 hv0_2))
 rw [text_In] at h
 refine X_seq ?_
 refine X_reg (lx_ok γ) ?_
 simp -implicitDefEqProofs only [go_sem, seval, hq]
 refine X_seq ?_
 refine X_seq ?_
 refine X_reg (lx_ok γ) ?_
 obtain ⟨x1, f1, h⟩ := bindE h
 simp -implicitDefEqProofs only [go_sem, seval, hq]
 refine callV_eq (text_within_ok γ _  f1) rfl rfl ?_
 simp -implicitDefEqProofs only [go_sem, seval, hq]
 cases f2 : x1
 ·rw [if_neg (ne_true_of_eq_false f2)] at h
  refine X_cond (lx_ok γ) ?_
  simp -implicitDefEqProofs only [go_sem, seval, f2, hq]
  refine X_seq ?_
  refine X_reg (lx_ok γ) ?_
  simp -implicitDefEqProofs only [go_sem, seval, f2, hq]
  obtain rfl := Option.some.inj h
  refine X_ret ?_
  simp -implicitDefEqProofs only [go_sem, seval, f2, hq]
  exact Rt.mv0 (BaseR.refl hob) (by simp) (VM.self (by simp))
 ·rw [if_pos f2] at h
  refine X_cond (lx_ok γ) ?_
  simp -implicitDefEqProofs only [go_sem, seval, f2, hq]
  refine X_skip ?_
  try simp -implicitDefEqProofs only [go_sem]
  refine X_seq ?_
  refine X_reg (lx_ok γ) ?_
  obtain ⟨x2, f3, h⟩ := bindE h
  simp -implicitDefEqProofs only [go_sem, seval, f2, hq]
  refine callV_eq (slices_BinarySearch_int_ok γ _ (by first | exact rdK_app hv0_1 | exact hv0_1) f3) rfl rfl ?_
  simp -implicitDefEqProofs only [go_sem, seval, f2, hq]
  refine X_seq ?_
  refine X_seq ?_
  refine X_reg (lx_ok γ) ?_
  simp -implicitDefEqProofs only [go_sem, seval, f2, hq]
  cases f4 : x2.2
  ·rw [if_neg (ne_true_of_eq_false f4)] at h
   refine X_cond (lx_ok γ) ?_
   simp -implicitDefEqProofs only [go_sem, seval, f2, f4, hq]
   refine X_skip ?_
   try simp -implicitDefEqProofs only [go_sem]
   refine X_seq ?_
   refine X_reg (lx_ok γ) ?_
   simp -implicitDefEqProofs only [go_sem, seval, f2, f4, hq]
   obtain rfl := Option.some.inj h
   refine X_ret ?_
   simp -implicitDefEqProofs only [go_sem, seval, f2, f4, hq]
   exact Rt.mv0 (BaseR.refl hob) (by simp) (VM.self (by simp))
  ·rw [if_pos f4] at h
   refine X_cond (lx_ok γ) ?_
   simp -implicitDefEqProofs only [go_sem, seval, f2, f4, hq]
   refine X_seq ?_
   refine X_reg (lx_ok γ) ?_
   simp -implicitDefEqProofs only [go_sem, seval, f2, f4, hq]
   obtain rfl := Option.some.inj h
   refine X_ret ?_
   simp -implicitDefEqProofs only [go_sem, seval, f2, f4, hq]
   exact Rt.mv0 (BaseR.refl hob) (by simp) (VM.self (by simp))
end Go.Pf
end
section
set_option maxRecDepth 100000
namespace Go.Pf
open Go Go.Ab Go.Pp Go.Proofs Go.Proofs.S19
attribute [local go_sem] Lxτ Lxγ gam0 Int.toNat_natCast tau5 tau28 tau29 tau69 eI eB eS e_Loc e_Mins e_Text e_text_room e_text_reader e_portolanref19_reader
set_option maxHeartbeats 1000000 in
theorem text_reader_take_ok (γ : GT) (ob : OT) {o0 : Nat} {a0 : text_reader} {a1 : (List Int) → Option (Int × Int × Int)} {w1 : V} (hx0 : getO ob o0 = some (O.box [V.tr (.sl 1 false (List.map (eI .u8) a0.b)), vint .i64 a0.err])) (hf1 : ∀ (ob1 : OT) (y0 : List Int) (r : Int × Int × Int), a1 y0 = some r → FnV (Lx γ) w1 [V.tr (.sl 1 false (List.map (eI .u8) y0))] ob1 (V.tup [vint .i64 r.1, vint .i64 r.2.1, vint .i64 r.2.2]) ob1) {r : text_reader × Int} (h : text_reader_take a0 a1 = some r) :
  Valid (Lx γ) 64 [V.ref o0 0, w1] ob (vint .i64 r.2) (List.set ob o0 (some (O.box [V.tr (.sl 1 false (List.map (eI .u8) r.1.b)), vint .i64 r.1.err]))) := by
 refine valid_X (lx_ok γ) (fn := Tryd.f64) (rs := [.tmp 4]) Tryd.func64 (by kernel_rfl) rfl rfl Tryd.ntmps64 rfl (by simp) fun hb hob => ?_
 have hoa0 := getO_lt hx0
 refine X_ob (set_own hx0) ?_
 have hsA : ∀ (x : Option O) (l : OT), getO (List.set ob o0 x ++ l) o0 = x := fun _ _ => getO_selfA hoa0
 have hsB : ∀ (x : Option O), getO (List.set ob o0 x) o0 = x := fun _ => getO_self hoa0
 have hsC : ∀ (x y : Option O) (l : OT), List.set (List.set ob o0 x ++ l) o0 y = List.set ob o0 y ++ l := fun _ _ _ => set_selfA hoa0
 rw [text_reader_take] at h
 refine X_seq ?_
 refine X_reg (lx_ok γ) ?_
 simp -implicitDefEqProofs only [go_sem, seval, hsA, hsB, hsC]
 refine X_seq ?_
 refine X_seq ?_
 refine X_reg (lx_ok γ) ?_
 simp -implicitDefEqProofs only [go_sem, seval, hsA, hsB, hsC]
 cases f1 : (a0.err != 0)
 ·rw [if_neg (ne_true_of_eq_false f1)] at h
  refine X_cond (lx_ok γ) ?_
  simp -implicitDefEqProofs only [go_sem, seval, f1, hsA, hsB, hsC]
  refine X_skip ?_
  try simp -implicitDefEqProofs only [go_sem]
  refine X_seq ?_
  refine X_reg (lx_ok γ) ?_
  obtain ⟨x1, f2, h⟩ := bindE h
  simp -implicitDefEqProofs only [go_sem, seval, f1, hsA, hsB, hsC]
  refine callV_fn (hf1 _ _ _ f2) rfl rfl ?_
  simp -implicitDefEqProofs only [go_sem, seval, f1, hsA, hsB, hsC]
  refine X_seq ?_
  refine X_seq ?_
  refine X_reg (lx_ok γ) ?_
  simp -implicitDefEqProofs only [go_sem, seval, f1, hsA, hsB, hsC]
  cases f3 : (x1.2.2 != 0)
  ·rw [if_neg (ne_true_of_eq_false f3)] at h
   refine X_cond (lx_ok γ) ?_
   simp -implicitDefEqProofs only [go_sem, seval, f1, f3, hsA, hsB, hsC]
   refine X_skip ?_
   try simp -implicitDefEqProofs only [go_sem]
   refine X_seq ?_
   refine X_reg (lx_ok γ) ?_
   obtain ⟨x2, f4, h⟩ := bindE h
   obtain ⟨f5, f6, f7, f8⟩ := tailL_some2 f4
   try simp only [Int.toNat_natCast, Int.reduceToNat] at f6 f7 f8
   simp -implicitDefEqProofs only [go_sem, seval, f1, f3, hsA, hsB, hsC, f5, f6, f7, f8]
   refine X_seq ?_
   refine X_reg (lx_ok γ) ?_
   simp -implicitDefEqProofs only [go_sem, seval, f1, f3, hsA, hsB, hsC]
   obtain rfl := Option.some.inj h
   refine X_ret ?_
   simp -implicitDefEqProofs only [go_sem, seval, f1, f3, hsA, hsB, hsC]
   exact Rt.mv1 (BaseR.set hob (.box _ _ (by exact ⟨VLe.self (by simp [*]), VLe.self (by simp [*]), trivial⟩))) (by simp) (VM.self (by simp))
  ·rw [if_pos f3] at h
   refine X_cond (lx_ok γ) ?_
   simp -implicitDefEqProofs only [go_sem, seval, f1, f3, hsA, hsB, hsC]
   refine X_seq ?_
   refine X_reg (lx_ok γ) ?_
   simp -implicitDefEqProofs only [go_sem, seval, f1, f3, hsA, hsB, hsC]
   refine X_seq ?_
   refine X_reg (lx_ok γ) ?_
   simp -implicitDefEqProofs only [go_sem, seval, f1, f3, hsA, hsB, hsC]
   obtain rfl := Option.some.inj h
   refine X_ret ?_
   simp -implicitDefEqProofs only [go_sem, seval, f1, f3, hsA, hsB, hsC]
   exact Rt.mv1 (BaseR.set hob (.box _ _ (by exact ⟨VLe.self (by simp [*]), VLe.self (by simp [*]), trivial⟩))) (by simp) (VM.self (by simp))
 ·rw [if_pos f1] at h
  refine X_cond (lx_ok γ) ?_
  simp -implicitDefEqProofs only [go_sem, seval, f1, hsA, hsB, hsC]
  refine X_seq ?_
  refine X_reg (lx_ok γ) ?_
  simp -implicitDefEqProofs only [go_sem, seval, f1, hsA, hsB, hsC]
  obtain rfl := Option.some.inj h
  refine X_ret ?_
  simp -implicitDefEqProofs only [go_sem, seval, f1, hsA, hsB, hsC]
  exact Rt.mv1 (BaseR.set hob (.box _ _ (by exact ⟨VLe.self (by simp [*]), VLe.self (by simp [*]), trivial⟩))) (by simp) (VM.self (by simp))
end Go.Pf
end
section
set_option maxRecDepth 100000
namespace Go.Pf
open Go Go.Ab Go.Pp Go.Proofs Go.Proofs.S19
attribute [local go_sem] Lxτ Lxγ gam0 Int.toNat_natCast tau3 tau5 tau28 tau79 eI eB eS e_Loc e_Mins e_Text e_text_room e_text_reader e_portolanref19_reader
set_option maxHeartbeats 1000000 in
theorem varint_get_ok (γ : GT) (ob : OT) {a0 : List Int} {a1 : Int} {r : Int × Int × Int} (h : varint_get a0 a1 = some r) :
  Valid (Lx γ) 78 [V.tr (.sl 1 false (List.map (eI .u8) a0)), vint .i64 a1] ob (V.tup [vint .u64 r.1, vint .i64 r.2.1, vint .i64 r.2.2]) ob := by
 refine valid_X (lx_ok γ) (fn := Tryd.f78) (rs := [.tmp 4, .tmp 5, .tmp 6]) Tryd.func78 (by kernel_rfl) rfl rfl Tryd.ntmps78 rfl (by simp) fun hb hob => ?_
 rw [varint_get] at h
 refine X_seq ?_
 refine X_reg (lx_ok γ) ?_
 simp -implicitDefEqProofs only [go_sem, seval]
 refine X_seq ?_
 refine X_reg (lx_ok γ) ?_
 simp -implicitDefEqProofs only [go_sem, seval]
 refine X_seq ?_
 refine X_seq ?_
 refine X_reg (lx_ok γ) ?_
 obtain ⟨x1, f1, h⟩ := bindE h
 obtain ⟨f2, f3, f4⟩ := headL_some f1
 try simp only [Int.toNat_natCast, Int.reduceToNat] at f3 f4
 simp -implicitDefEqProofs only [go_sem, seval, f2, f3, f4]
 refine X_jq (J := fun as1 ob1 => varint_get.k1 a0 a1 = some r ∧ [(0, V.tr (.sl 1 false (List.map (eI .u8) a0))), (1, vint .i64 a1)] = as1 ∧ ob = ob1) ?_ ?_
 ·rintro as1 ob1 ⟨h, rfl, rfl⟩
  rw [varint_get.k1] at h
  simp -implicitDefEqProofs only [go_sem, seval]
  refine X_seq ?_
  refine X_seq ?_
  refine X_reg (lx_ok γ) ?_
  simp -implicitDefEqProofs only [go_sem, seval]
  cases f5 : decide (a1 ≤ (List.length a0 : Int))
  ·rw [if_neg (ne_true_of_eq_false f5)] at h
   refine X_cond (lx_ok γ) ?_
   simp -implicitDefEqProofs only [go_sem, seval, f5]
   refine X_skip ?_
   try simp -implicitDefEqProofs only [go_sem]
   refine X_seq ?_
   refine X_reg (lx_ok γ) ?_
   simp -implicitDefEqProofs only [go_sem, seval, f5]
   obtain rfl := Option.some.inj h
   refine X_ret ?_
   simp -implicitDefEqProofs only [go_sem, seval, f5]
   exact Rt.mv1 (BaseR.refl hob) (by simp) (VM.tup ⟨VM.self (by simp), VM.self (by simp), VM.self (by simp), trivial⟩)
  ·rw [if_pos f5] at h
   refine X_cond (lx_ok γ) ?_
   simp -implicitDefEqProofs only [go_sem, seval, f5]
   refine X_seq ?_
   refine X_reg (lx_ok γ) ?_
   simp -implicitDefEqProofs only [go_sem, seval, f5]
   obtain rfl := Option.some.inj h
   refine X_ret ?_
   simp -implicitDefEqProofs only [go_sem, seval, f5]
   exact Rt.mv1 (BaseR.refl hob) (by simp) (VM.tup ⟨VM.self (by simp), VM.self (by simp), VM.self (by simp), trivial⟩)
 ·refine X_block ?_
  obtain ⟨lr1, hl1, hk1, hr1⟩ := aft2 h
  refine X_forN hl1 (fun (i1 : Nat) (s : Int) as1 ob1 => [(0, V.tr (.sl 1 false (List.map (eI .u8) a0))), (1, vint .i64 a1), (7, vint .u64 s), (16, V.tr (.sl 1 false (List.map (eI .u8) x1))), (17, vint .i64 (List.length x1 : Int)), (18, vint .i64 (i1 : Int))] = as1 ∧ ob = ob1) ⟨_, _, ?_, rfl, rfl⟩ ?_ ?_
  ·exact To.mv1 (BaseR.refl hob) (by simp) (by simp only [go_sem]; exact ⟨VM.self (by simp), VM.self (by simp), VM.self (by simp), VM.self (by simp), VM.self (by simp), VM.eqv (by simp) (by simp)⟩)
  ·rintro i1 x2 o1 hi1 hw1 h ho1 as1 ob1 ⟨rfl, rfl⟩
   rw [varint_get.b1] at h
   refine X_seq ?_
   refine X_reg (lx_ok γ) ?_
   simp -implicitDefEqProofs only [go_sem, seval, hi1]
   refine X_seq ?_
   refine X_cond (lx_ok γ) ?_
   simp -implicitDefEqProofs only [go_sem, seval, hi1]
   refine X_skip ?_
   try simp -implicitDefEqProofs only [go_sem]
   refine X_seq ?_
   refine X_block ?_
   refine X_seq ?_
   refine X_reg (lx_ok γ) ?_
   obtain ⟨x4, f6, h⟩ := bindE h
   obtain ⟨f7, f8⟩ := ixL_nat f6
   have f9 : (0 : Int) ≤ (i1 : Int) := Int.natCast_nonneg _
   simp -implicitDefEqProofs only [go_sem, seval, hi1, f7, f8, f9]
   refine X_seq ?_
   refine X_reg (lx_ok γ) ?_
   simp -implicitDefEqProofs only [go_sem, seval, hi1]
   refine X_seq ?_
   refine X_jq (J := fun as1 ob1 => varint_get.j1 x2 x4 i1 = some o1 ∧ [(0, V.tr (.sl 1 false (List.map (eI .u8) a0))), (1, vint .i64 a1), (7, vint .u64 x2), (8, vint .i64 (i1 : Int)), (9, vint .u8 x4), (10, vint .u64 (u64 (u8 (clrW 8 x4 128)))), (16, V.tr (.sl 1 false (List.map (eI .u8) x1))), (17, vint .i64 (List.length x1 : Int)), (18, vint .i64 (i1 : Int))] = as1 ∧ ob = ob1) ?_ ?_
   ·rintro as1 ob1 ⟨h, rfl, rfl⟩
    rw [varint_get.j1] at h
    simp -implicitDefEqProofs only [go_sem, seval, hi1]
    refine X_seq ?_
    refine X_reg (lx_ok γ) ?_
    obtain ⟨x5, f10, h⟩ := bindE h
    have f11 : ¬ (w64 (7 * (i1 : Int))) < 0 := of_decide_eq_true (chkB_some f10).1
    simp -implicitDefEqProofs only [go_sem, seval, hi1, f11]
    refine X_block ?_
    refine X_seq ?_
    refine X_reg (lx_ok γ) ?_
    simp -implicitDefEqProofs only [go_sem, seval, hi1]
    cases f12 : (u8 (andW 8 x4 128) != 0)
    ·rw [if_neg (ne_true_of_eq_false f12)] at h
     refine X_cond (lx_ok γ) ?_
     simp -implicitDefEqProofs only [go_sem, seval, hi1, f12]
     refine X_seq ?_
     refine X_jq (J := fun as1 ob1 => ∃ (x7 : Bool), varint_get.j2 x2 x4 x7 i1 = some o1 ∧ [(7, vint .u64 (u64 (orW 64 x2 (u64 (shlE (u64 (u8 (clrW 8 x4 128))) (w64 (7 * (i1 : Int))) 64))))), (8, vint .i64 (i1 : Int)), (45, vbool x7)] = as1 ∧ ob = ob1) ?_ ?_
     ·rintro as1 ob1 ⟨x7, h, rfl, rfl⟩
      rw [varint_get.j2] at h
      simp -implicitDefEqProofs only [go_sem, seval, hi1, f12]
      cases f13 : x7
      ·rw [if_neg (ne_true_of_eq_false f13)] at h
       refine X_cond (lx_ok γ) ?_
       simp -implicitDefEqProofs only [go_sem, seval, hi1, f12, f13]
       refine X_seq ?_
       refine X_reg (lx_ok γ) ?_
       simp -implicitDefEqProofs only [go_sem, seval, hi1, f12, f13]
       obtain rfl := Option.some.inj h
       have h := hr1 _ (ho1 (fun _ hs => nomatch hs))
       obtain rfl := Option.some.inj h
       refine X_ret ?_
       simp -implicitDefEqProofs only [go_sem, seval, hi1, f12, f13]
       exact Rt.mv1 (BaseR.refl hob) (by simp) (VM.tup ⟨VM.self (by simp), VM.self (by simp), VM.self (by simp), trivial⟩)
      ·rw [if_pos f13] at h
       refine X_cond (lx_ok γ) ?_
       simp -implicitDefEqProofs only [go_sem, seval, hi1, f12, f13]
       refine X_seq ?_
       refine X_reg (lx_ok γ) ?_
       simp -implicitDefEqProofs only [go_sem, seval, hi1, f12, f13]
       obtain rfl := Option.some.inj h
       have h := hr1 _ (ho1 (fun _ hs => nomatch hs))
       obtain rfl := Option.some.inj h
       refine X_ret ?_
       simp -implicitDefEqProofs only [go_sem, seval, hi1, f12, f13]
       exact Rt.mv1 (BaseR.refl hob) (by simp) (VM.tup ⟨VM.self (by simp), VM.self (by simp), VM.self (by simp), trivial⟩)
     ·refine X_reg (lx_ok γ) ?_
      cases f14 : (x4 == 0)
      ·rw [if_neg (ne_true_of_eq_false f14)] at h
       simp -implicitDefEqProofs only [go_sem, seval, hi1, f12, f14]
       refine kJ_in ?_ ⟨false, h, rfl, rfl⟩
       exact To.mv1 (BaseR.refl hob) (by simp) (by simp only [go_sem]; exact ⟨VM.self (by simp), VM.self (by simp), VM.self (by simp)⟩)
      ·rw [if_pos f14] at h
       simp -implicitDefEqProofs only [go_sem, seval, hi1, f12, f14]
       refine kJ_in ?_ ⟨(decide (0 < (i1 : Int))), h, rfl, rfl⟩
       exact To.mv1 (BaseR.refl hob) (by simp) (by simp only [go_sem]; exact ⟨VM.self (by simp), VM.self (by simp), VM.self (by simp)⟩)
    ·rw [if_pos f12] at h
     refine X_cond (lx_ok γ) ?_
     simp -implicitDefEqProofs only [go_sem, seval, hi1, f12]
     refine X_skip ?_
     try simp -implicitDefEqProofs only [go_sem]
     refine X_reg (lx_ok γ) ?_
     obtain rfl := Option.some.inj h
     simp -implicitDefEqProofs only [go_sem, seval, hi1, f12]
     refine kR_in rfl ?_ ⟨rfl, rfl⟩
     exact To.mv1 (BaseR.refl hob) (by simp) (by simp only [go_sem]; exact ⟨VM.self (by simp), VM.self (by simp), VM.self (by simp), VM.self (by simp), VM.self (by simp), VM.eqv (by rw [hw1]) (by simp)⟩)
   ·refine X_seq ?_
    refine X_reg (lx_ok γ) ?_
    cases f15 : ((i1 : Int) == 9)
    ·rw [if_neg (ne_true_of_eq_false f15)] at h
     simp -implicitDefEqProofs only [go_sem, seval, hi1, f15]
     refine X_condF (lx_ok γ) rfl ?_
     refine X_skip ?_
     try simp -implicitDefEqProofs only [go_sem]
     refine kJ_in ?_ ⟨h, rfl, rfl⟩
     exact To.mv1 (BaseR.refl hob) (by simp) (by simp only [go_sem]; exact ⟨VM.self (by simp), VM.self (by simp), VM.self (by simp), VM.self (by simp), VM.self (by simp), VM.self (by simp), VM.self (by simp), VM.self (by simp), VM.self (by simp)⟩)
    ·rw [if_pos f15] at h
     simp -implicitDefEqProofs only [go_sem, seval, hi1, f15]
     cases f16 : decide (1 < u64 (u8 (clrW 8 x4 128)))
     ·rw [if_neg (ne_true_of_eq_false f16)] at h
      refine X_cond (lx_ok γ) ?_
      simp -implicitDefEqProofs only [go_sem, seval, hi1, f15, f16]
      refine X_skip ?_
      try simp -implicitDefEqProofs only [go_sem]
      refine kJ_in ?_ ⟨h, rfl, rfl⟩
      exact To.mv1 (BaseR.refl hob) (by simp) (by simp only [go_sem]; exact ⟨VM.self (by simp), VM.self (by simp), VM.self (by simp), VM.self (by simp), VM.self (by simp), VM.self (by simp), VM.self (by simp), VM.self (by simp), VM.self (by simp)⟩)
     ·rw [if_pos f16] at h
      refine X_cond (lx_ok γ) ?_
      simp -implicitDefEqProofs only [go_sem, seval, hi1, f15, f16]
      refine X_seq ?_
      refine X_reg (lx_ok γ) ?_
      simp -implicitDefEqProofs only [go_sem, seval, hi1, f15, f16]
      obtain rfl := Option.some.inj h
      have h := hr1 _ (ho1 (fun _ hs => nomatch hs))
      obtain rfl := Option.some.inj h
      refine X_ret ?_
      simp -implicitDefEqProofs only [go_sem, seval, hi1, f15, f16]
      exact Rt.mv1 (BaseR.refl hob) (by simp) (VM.tup ⟨VM.self (by simp), VM.self (by simp), VM.self (by simp), trivial⟩)
  ·rintro i1 x2 hi1 hn1 as1 ob1 ⟨rfl, rfl⟩
   refine X_seq ?_
   refine X_reg (lx_ok γ) ?_
   simp -implicitDefEqProofs only [go_sem, seval, hi1]
   refine X_seq ?_
   refine X_cond (lx_ok γ) ?_
   simp -implicitDefEqProofs only [go_sem, seval, hi1]
   have h := hk1 _ (.inl hn1)
   refine X_exit ?_
   try simp -implicitDefEqProofs only [go_sem, ↓reduceIte, Nat.reduceEqDiff, reduceCtorEq]
   refine kJ_in ?_ ⟨h, rfl, rfl⟩
   exact To.mv1 (BaseR.refl hob) (by simp) (by simp only [go_sem]; exact ⟨VM.self (by simp), VM.self (by simp)⟩)
end Go.Pf
end
section
set_option maxRecDepth 100000
namespace Go.Pf
open Go Go.Ab Go.Pp Go.Proofs Go.Proofs.S19
attribute [local go_sem] Lxτ Lxγ gam0 Int.toNat_natCast tau3 tau5 tau28 tau79 eI eB eS e_Loc e_Mins e_Text e_text_room e_text_reader e_portolanref19_reader
set_option maxHeartbeats 1000000 in
theorem varint_Get_ok (γ : GT) (ob : OT) {a0 : List Int} {r : Int × Int × Int} (h : varint_Get a0 = some r) :
  Valid (Lx γ) 65 [V.tr (.sl 1 false (List.map (eI .u8) a0))] ob (V.tup [vint .i64 r.1, vint .i64 r.2.1, vint .i64 r.2.2]) ob := by
 refine valid_X (lx_ok γ) (fn := Tryd.f65) (rs := [.tmp 2, .tmp 3, .tmp 4]) Tryd.func65 (by kernel_rfl) rfl rfl Tryd.ntmps65 rfl (by simp) fun hb hob => ?_
 rw [varint_Get] at h
 refine X_seq ?_
 refine X_reg (lx_ok γ) ?_
 simp -implicitDefEqProofs only [go_sem, seval]
 refine X_seq ?_
 refine X_reg (lx_ok γ) ?_
 obtain ⟨x1, f1, h⟩ := bindE h
 simp -implicitDefEqProofs only [go_sem, seval]
 refine callV_eq (varint_get_ok γ _  f1) rfl rfl ?_
 simp -implicitDefEqProofs only [go_sem, seval]
 refine X_seq ?_
 refine X_reg (lx_ok γ) ?_
 simp -implicitDefEqProofs only [go_sem, seval]
 obtain rfl := Option.some.inj h
 refine X_ret ?_
 simp -implicitDefEqProofs only [go_sem, seval]
 exact Rt.mv1 (BaseR.refl hob) (by simp) (VM.tup ⟨VM.self (by simp), VM.self (by simp), VM.self (by simp), trivial⟩)
end Go.Pf
end
section
set_option maxRecDepth 100000
namespace Go.Pf
open Go Go.Ab Go.Pp Go.Proofs Go.Proofs.S19
attribute [local go_sem] Lxτ Lxγ gam0 Int.toNat_natCast tau3 tau4 tau5 tau28 tau29 tau67 tau69 tau96 eI eB eS e_Loc e_Mins e_Text e_text_room e_text_reader e_portolanref19_reader
set_option maxHeartbeats 1000000 in
theorem text_reader_within_ok (γ : GT) (ob : OT) {o0 : Nat} {a0 : text_reader} {a1 : Int} {a2 : Int} (hx0 : getO ob o0 = some (O.box [V.tr (.sl 1 false (List.map (eI .u8) a0.b)), vint .i64 a0.err])) {r : text_reader × Int} (h : text_reader_within a0 a1 a2 = some r) :
  Valid (Lx γ) 40 [V.ref o0 0, vint .i64 a1, vint .i64 a2] ob (vint .i64 r.2) (List.set ob o0 (some (O.box [V.tr (.sl 1 false (List.map (eI .u8) r.1.b)), vint .i64 r.1.err]))) := by
 refine valid_X (lx_ok γ) (fn := Tryd.f40) (rs := [.tmp 6]) Tryd.func40 (by kernel_rfl) rfl rfl Tryd.ntmps40 rfl (by simp) fun hb hob => ?_
 have hoa0 := getO_lt hx0
 refine X_ob (set_own hx0) ?_
 have hsA : ∀ (x : Option O) (l : OT), getO (List.set ob o0 x ++ l) o0 = x := fun _ _ => getO_selfA hoa0
 have hsB : ∀ (x : Option O), getO (List.set ob o0 x) o0 = x := fun _ => getO_self hoa0
 have hsC : ∀ (x y : Option O) (l : OT), List.set (List.set ob o0 x ++ l) o0 y = List.set ob o0 y ++ l := fun _ _ _ => set_selfA hoa0
 rw [text_reader_within] at h
 refine X_seq ?_
 refine X_reg (lx_ok γ) ?_
 simp -implicitDefEqProofs only [go_sem, seval, hsA, hsB, hsC]
 refine X_seq ?_
 refine X_reg (lx_ok γ) ?_
 obtain ⟨x1, f1, h⟩ := bindE h
 simp -implicitDefEqProofs only [go_sem, seval, hsA, hsB, hsC]
 refine callV_eq (text_reader_take_ok γ _ (by simp -implicitDefEqProofs only [go_sem, seval, hsA, hsB, hsC]; try rfl) (fun ob1 y0 r hx => by exact varint_Get_ok γ _  hx) f1) rfl rfl ?_
 simp -implicitDefEqProofs only [go_sem, seval, hsA, hsB, hsC]
 refine X_seq ?_
 refine X_jq (J := fun as1 ob1 => ∃ (x2 : Int), text_reader_within.j1 x1 x2 = some r ∧ [(0, V.ref o0 0), (7, vint .i64 x1.2)] = as1 ∧ (List.set ob o0 (some (O.box [V.tr (.sl 1 false (List.map (eI .u8) x1.1.b)), vint .i64 x2]))) = ob1) ?_ ?_
 ·rintro as1 ob1 ⟨x2, h, rfl, rfl⟩
  rw [text_reader_within.j1] at h
  simp -implicitDefEqProofs only [go_sem, seval, hsA, hsB, hsC]
  refine X_seq ?_
  refine X_seq ?_
  refine X_reg (lx_ok γ) ?_
  simp -implicitDefEqProofs only [go_sem, seval, hsA, hsB, hsC]
  cases f2 : (x2 != 0)
  ·rw [if_neg (ne_true_of_eq_false f2)] at h
   refine X_cond (lx_ok γ) ?_
   simp -implicitDefEqProofs only [go_sem, seval, f2, hsA, hsB, hsC]
   refine X_skip ?_
   try simp -implicitDefEqProofs only [go_sem]
   refine X_seq ?_
   refine X_reg (lx_ok γ) ?_
   simp -implicitDefEqProofs only [go_sem, seval, f2, hsA, hsB, hsC]
   obtain rfl := Option.some.inj h
   refine X_ret ?_
   simp -implicitDefEqProofs only [go_sem, seval, f2, hsA, hsB, hsC]
   exact Rt.mv1 (BaseR.set hob (.box _ _ (by exact ⟨VLe.self (by simp [*]), VLe.self (by simp [*]), trivial⟩))) (by simp) (VM.self (by simp))
  ·rw [if_pos f2] at h
   refine X_cond (lx_ok γ) ?_
   simp -implicitDefEqProofs only [go_sem, seval, f2, hsA, hsB, hsC]
   refine X_seq ?_
   refine X_reg (lx_ok γ) ?_
   simp -implicitDefEqProofs only [go_sem, seval, f2, hsA, hsB, hsC]
   obtain rfl := Option.some.inj h
   refine X_ret ?_
   simp -implicitDefEqProofs only [go_sem, seval, f2, hsA, hsB, hsC]
   exact Rt.mv1 (BaseR.set hob (.box _ _ (by exact ⟨VLe.self (by simp [*]), VLe.self (by simp [*]), trivial⟩))) (by simp) (VM.self (by simp))
 ·refine X_seq ?_
  refine X_reg (lx_ok γ) ?_
  cases f3 : (x1.1.err == 0)
  ·rw [if_neg (ne_true_of_eq_false f3)] at h
   simp -implicitDefEqProofs only [go_sem, seval, f3, hsA, hsB, hsC]
   refine X_condF (lx_ok γ) rfl ?_
   refine X_skip ?_
   try simp -implicitDefEqProofs only [go_sem]
   refine kJ_in ?_ ⟨x1.1.err, h, rfl, rfl⟩
   exact To.mv1 (BaseR.set hob (.box _ _ (by exact ⟨VLe.self (by simp [*]), VLe.self (by simp [*]), trivial⟩))) (by simp) (by simp only [go_sem]; exact ⟨VM.self (by simp [*]), VM.self (by simp)⟩)
  ·rw [if_pos f3] at h
   obtain ⟨x3, f4, h⟩ := bindE h
   simp -implicitDefEqProofs only [go_sem, seval, f3, hsA, hsB, hsC]
   refine callV_eq (text_within_ok γ _  f4) rfl rfl ?_
   simp -implicitDefEqProofs only [go_sem, seval, f3, hsA, hsB, hsC]
   cases f5 : x3
   ·rw [if_neg (ne_true_of_eq_false f5)] at h
    refine X_cond (lx_ok γ) ?_
    simp -implicitDefEqProofs only [go_sem, seval, f3, f5, hsA, hsB, hsC]
    refine X_reg (lx_ok γ) ?_
    simp -implicitDefEqProofs only [go_sem, seval, f3, f5, hsA, hsB, hsC]
    refine kJ_in ?_ ⟨5, h, rfl, rfl⟩
    exact To.mv1 (BaseR.set hob (.box _ _ (by exact ⟨VLe.self (by simp [*]), VLe.self (by simp [*]), trivial⟩))) (by simp) (by simp only [go_sem]; exact ⟨VM.self (by simp [*]), VM.self (by simp)⟩)
   ·rw [if_pos f5] at h
    refine X_cond (lx_ok γ) ?_
    simp -implicitDefEqProofs only [go_sem, seval, f3, f5, hsA, hsB, hsC]
    refine X_skip ?_
    try simp -implicitDefEqProofs only [go_sem]
    refine kJ_in ?_ ⟨x1.1.err, h, rfl, rfl⟩
    exact To.mv1 (BaseR.set hob (.box _ _ (by exact ⟨VLe.self (by simp [*]), VLe.self (by simp [*]), trivial⟩))) (by simp) (by simp only [go_sem]; exact ⟨VM.self (by simp [*]), VM.self (by simp)⟩)
end Go.Pf
end
section
set_option maxRecDepth 100000
namespace Go.Pf
open Go Go.Ab Go.Pp Go.Proofs Go.Proofs.S19
attribute [local go_sem] Lxτ Lxγ gam0 Int.toNat_natCast tau3 tau5 tau28 tau79 eI eB eS e_Loc e_Mins e_Text e_text_room e_text_reader e_portolanref19_reader
set_option maxHeartbeats 1000000 in
theorem varint_GetSigned_ok (γ : GT) (ob : OT) {a0 : List Int} {r : Int × Int × Int} (h : varint_GetSigned a0 = some r) :
  Valid (Lx γ) 66 [V.tr (.sl 1 false (List.map (eI .u8) a0))] ob (V.tup [vint .i64 r.1, vint .i64 r.2.1, vint .i64 r.2.2]) ob := by
 refine valid_X (lx_ok γ) (fn := Tryd.f66) (rs := [.tmp 2, .tmp 3, .tmp 4]) Tryd.func66 (by kernel_rfl) rfl rfl Tryd.ntmps66 rfl (by simp) fun hb hob => ?_
 rw [varint_GetSigned] at h
 refine X_seq ?_
 refine X_reg (lx_ok γ) ?_
 simp -implicitDefEqProofs only [go_sem, seval]
 refine X_seq ?_
 refine X_reg (lx_ok γ) ?_
 obtain ⟨x1, f1, h⟩ := bindE h
 simp -implicitDefEqProofs only [go_sem, seval]
 refine callV_eq (varint_get_ok γ _  f1) rfl rfl ?_
 simp -implicitDefEqProofs only [go_sem, seval]
 refine X_seq ?_
 refine X_reg (lx_ok γ) ?_
 simp -implicitDefEqProofs only [go_sem, seval]
 obtain rfl := Option.some.inj h
 refine X_ret ?_
 simp -implicitDefEqProofs only [go_sem, seval]
 exact Rt.mv1 (BaseR.refl hob) (by simp) (VM.tup ⟨VM.self (by simp), VM.self (by simp), VM.self (by simp), trivial⟩)
end Go.Pf
end
section
set_option maxRecDepth 100000
namespace Go.Pf
open Go Go.Ab Go.Pp Go.Proofs Go.Proofs.S19
attribute [local go_sem] Lxτ Lxγ gam0 Int.toNat_natCast tau3 tau46 eI eB eS e_Loc e_Mins e_Text e_text_room e_text_reader e_portolanref19_reader
set_option maxHeartbeats 1000000 in
theorem text_place_ok (γ : GT) (ob : OT) {a0 : Int} {r : Loc × Bool} (h : text_place a0 = some r) :
  Valid (Lx γ) 79 [vint .i64 a0] ob (V.tup [V.agg [vint .i64 r.1.Kind, vint .i64 r.1.N], vbool r.2]) ob := by
 refine valid_X (lx_ok γ) (fn := Tryd.f79) (rs := [.cell 2 46, .tmp 3]) Tryd.func79 (by kernel_rfl) rfl rfl Tryd.ntmps79 rfl (by simp) fun hb hob => ?_
 rw [text_place] at h
 refine X_seq ?_
 refine X_reg (lx_ok γ) ?_
 simp -implicitDefEqProofs only [go_sem, seval]
 refine X_seq ?_
 refine X_jq (J := fun as1 ob1 => text_place.j1 a0 = some r ∧ [(0, vint .i64 a0), (2, V.ref ob.length 0)] = as1 ∧ ob ++ [some (O.box [vint .i64 0, vint .i64 0])] = ob1) ?_ ?_
 ·rintro as1 ob1 ⟨h, rfl, rfl⟩
  rw [text_place.j1] at h
  simp -implicitDefEqProofs only [go_sem, seval]
  refine X_seq ?_
  refine X_reg (lx_ok γ) ?_
  simp -implicitDefEqProofs only [go_sem, seval]
  refine X_seq ?_
  refine X_reg (lx_ok γ) ?_
  simp -implicitDefEqProofs only [go_sem, seval]
  obtain rfl := Option.some.inj h
  refine X_ret ?_
  simp -implicitDefEqProofs only [go_sem, seval]
  exact Rt.mv0 (BaseR.refl hob) (by simp) (VM.tup ⟨VM.agg ⟨VM.self (by simp), VM.self (by simp), trivial⟩, VM.self (by simp), trivial⟩)
 ·refine X_seq ?_
  refine X_reg (lx_ok γ) ?_
  cases f1 : (a0 == 0)
  ·rw [if_neg (ne_true_of_eq_false f1)] at h
   cases f2 : (Int.tmod a0 2 == 1)
   ·rw [if_neg (ne_true_of_eq_false f2)] at h
    simp -implicitDefEqProofs only [go_sem, seval, f1, f2]
    refine X_condF (lx_ok γ) rfl ?_
    refine X_skip ?_
    try simp -implicitDefEqProofs only [go_sem]
    refine kJ_in ?_ ⟨h, rfl, rfl⟩
    exact To.mv [(0, 0)] (BaseR.refl hob) (by simp) (by decide) (by simp only [go_sem]; exact ⟨VM.self (by simp), VM.refA (j := 0) (t := 0) rfl⟩) ⟨⟨_, rfl, OM.box _ _ ⟨VM.self (by simp), VM.self (by simp), trivial⟩⟩, trivial⟩
   ·rw [if_pos f2] at h
    simp -implicitDefEqProofs only [go_sem, seval, f1, f2]
    cases f3 : decide (32 ≤ w64 (Int.tdiv a0 2))
    ·rw [if_neg (ne_true_of_eq_false f3)] at h
     refine X_cond (lx_ok γ) ?_
     simp -implicitDefEqProofs only [go_sem, seval, f1, f2, f3]
     refine X_skip ?_
     try simp -implicitDefEqProofs only [go_sem]
     refine kJ_in ?_ ⟨h, rfl, rfl⟩
     exact To.mv [(0, 0)] (BaseR.refl hob) (by simp) (by decide) (by simp only [go_sem]; exact ⟨VM.self (by simp), VM.refA (j := 0) (t := 0) rfl⟩) ⟨⟨_, rfl, OM.box _ _ ⟨VM.self (by simp), VM.self (by simp), trivial⟩⟩, trivial⟩
    ·rw [if_pos f3] at h
     refine X_cond (lx_ok γ) ?_
     simp -implicitDefEqProofs only [go_sem, seval, f1, f2, f3]
     refine X_seq ?_
     refine X_reg (lx_ok γ) ?_
     simp -implicitDefEqProofs only [go_sem, seval, f1, f2, f3]
     obtain rfl := Option.some.inj h
     refine X_ret ?_
     simp -implicitDefEqProofs only [go_sem, seval, f1, f2, f3]
     exact Rt.mv0 (BaseR.refl hob) (by simp) (VM.tup ⟨VM.agg ⟨VM.self (by simp), VM.self (by simp), trivial⟩, VM.self (by simp), trivial⟩)
  ·rw [if_pos f1] at h
   simp -implicitDefEqProofs only [go_sem, seval, f1]
   refine X_condT (lx_ok γ) rfl ?_
   refine X_seq ?_
   refine X_reg (lx_ok γ) ?_
   simp -implicitDefEqProofs only [go_sem, seval, f1]
   obtain rfl := Option.some.inj h
   refine X_ret ?_
   simp -implicitDefEqProofs only [go_sem, seval, f1]
   exact Rt.mv0 (BaseR.refl hob) (by simp) (VM.tup ⟨VM.agg ⟨VM.self (by simp), VM.self (by simp), trivial⟩, VM.self (by simp), trivial⟩)
end Go.Pf
end
section
set_option maxRecDepth 100000
namespace Go.Pf
open Go Go.Ab Go.Pp Go.Proofs Go.Proofs.S19
attribute [local go_sem] Lxτ Lxγ gam0 Int.toNat_natCast tau3 tau4 tau5 tau28 tau29 tau46 tau67 tau69 eI eB eS e_Loc e_Mins e_Text e_text_room e_text_reader e_portolanref19_reader
set_option maxHeartbeats 1000000 in
theorem text_reader_loc_ok (γ : GT) (ob : OT) {o0 : Nat} {a0 : text_reader} (hx0 : getO ob o0 = some (O.box [V.tr (.sl 1 false (List.map (eI .u8) a0.b)), vint .i64 a0.err])) {r : text_reader × Loc} (h : text_reader_loc a0 = some r) :
  Valid (Lx γ) 67 [V.ref o0 0] ob (V.agg [vint .i64 r.2.Kind, vint .i64 r.2.N]) (List.set ob o0 (some (O.box [V.tr (.sl 1 false (List.map (eI .u8) r.1.b)), vint .i64 r.1.err]))) := by
 refine valid_X (lx_ok γ) (fn := Tryd.f67) (rs := [.cell 2 46]) Tryd.func67 (by kernel_rfl) rfl rfl Tryd.ntmps67 rfl (by simp) fun hb hob => ?_
 have hoa0 := getO_lt hx0
 refine X_ob (set_own hx0) ?_
 have hsA : ∀ (x : Option O) (l : OT), getO (List.set ob o0 x ++ l) o0 = x := fun _ _ => getO_selfA hoa0
 have hsB : ∀ (x : Option O), getO (List.set ob o0 x) o0 = x := fun _ => getO_self hoa0
 have hsC : ∀ (x y : Option O) (l : OT), List.set (List.set ob o0 x ++ l) o0 y = List.set ob o0 y ++ l := fun _ _ _ => set_selfA hoa0
 rw [text_reader_loc] at h
 refine X_seq ?_
 refine X_reg (lx_ok γ) ?_
 simp -implicitDefEqProofs only [go_sem, seval, hsA, hsB, hsC]
 refine X_seq ?_
 refine X_reg (lx_ok γ) ?_
 obtain ⟨x1, f1, h⟩ := bindE h
 simp -implicitDefEqProofs only [go_sem, seval, hsA, hsB, hsC]
 refine callV_eq (text_reader_within_ok γ _ (by simp -implicitDefEqProofs only [go_sem, seval, hsA, hsB, hsC]; try rfl) f1) rfl rfl ?_
 obtain ⟨x2, f2, h⟩ := bindE h
 simp -implicitDefEqProofs only [go_sem, seval, hsA, hsB, hsC]
 refine callV_eq (text_place_ok γ _  f2) rfl rfl ?_
 simp -implicitDefEqProofs only [go_sem, seval, hsA, hsB, hsC]
 refine X_seq ?_
 refine X_seq ?_
 refine X_reg (lx_ok γ) ?_
 cases f3 : x2.2
 ·rw [if_neg (ne_true_of_eq_false f3)] at h
  simp -implicitDefEqProofs only [go_sem, seval, f3, hsA, hsB, hsC]
  cases f4 : (x1.1.err == 0)
  ·rw [if_neg (ne_true_of_eq_false f4)] at h
   refine X_cond (lx_ok γ) ?_
   simp -implicitDefEqProofs only [go_sem, seval, f3, f4, hsA, hsB, hsC]
   refine X_skip ?_
   try simp -implicitDefEqProofs only [go_sem]
   refine X_seq ?_
   refine X_reg (lx_ok γ) ?_
   simp -implicitDefEqProofs only [go_sem, seval, f3, f4, hsA, hsB, hsC]
   obtain rfl := Option.some.inj h
   refine X_ret ?_
   simp -implicitDefEqProofs only [go_sem, seval, f3, f4, hsA, hsB, hsC]
   exact Rt.mv0 (BaseR.set hob (.box _ _ (by exact ⟨VLe.self (by simp [*]), VLe.self (by simp [*]), trivial⟩))) (by simp) (VM.agg ⟨VM.self (by simp), VM.self (by simp), trivial⟩)
  ·rw [if_pos f4] at h
   refine X_cond (lx_ok γ) ?_
   simp -implicitDefEqProofs only [go_sem, seval, f3, f4, hsA, hsB, hsC]
   refine X_reg (lx_ok γ) ?_
   simp -implicitDefEqProofs only [go_sem, seval, f3, f4, hsA, hsB, hsC]
   refine X_seq ?_
   refine X_reg (lx_ok γ) ?_
   simp -implicitDefEqProofs only [go_sem, seval, f3, f4, hsA, hsB, hsC]
   obtain rfl := Option.some.inj h
   refine X_ret ?_
   simp -implicitDefEqProofs only [go_sem, seval, f3, f4, hsA, hsB, hsC]
   exact Rt.mv0 (BaseR.set hob (.box _ _ (by exact ⟨VLe.self (by simp [*]), VLe.self (by simp [*]), trivial⟩))) (by simp) (VM.agg ⟨VM.self (by simp), VM.self (by simp), trivial⟩)
 ·rw [if_pos f3] at h
  simp -implicitDefEqProofs only [go_sem, seval, f3, hsA, hsB, hsC]
  refine X_condF (lx_ok γ) rfl ?_
  refine X_skip ?_
  try simp -implicitDefEqProofs only [go_sem]
  refine X_seq ?_
  refine X_reg (lx_ok γ) ?_
  simp -implicitDefEqProofs only [go_sem, seval, f3, hsA, hsB, hsC]
  obtain rfl := Option.some.inj h
  refine X_ret ?_
  simp -implicitDefEqProofs only [go_sem, seval, f3, hsA, hsB, hsC]
  exact Rt.mv0 (BaseR.set hob (.box _ _ (by exact ⟨VLe.self (by simp [*]), VLe.self (by simp [*]), trivial⟩))) (by simp) (VM.agg ⟨VM.self (by simp), VM.self (by simp), trivial⟩)
end Go.Pf
end
section
set_option maxRecDepth 100000
namespace Go.Pf
open Go Go.Ab Go.Pp Go.Proofs Go.Proofs.S19
attribute [local go_sem] Lxτ Lxγ gam0 Int.toNat_natCast tau3 tau4 tau5 tau9 tau28 tau29 tau46 tau47 tau49 tau56 tau67 tau69 tau96 eI eB eS e_Loc e_Mins e_Text e_text_room e_text_reader e_portolanref19_reader
set_option maxHeartbeats 1000000 in
theorem text_reader_ins_ok (γ : GT) (ob : OT) {o0 : Nat} {a0 : text_reader} (hx0 : getO ob o0 = some (O.box [V.tr (.sl 1 false (List.map (eI .u8) a0.b)), vint .i64 a0.err])) {r : text_reader × Mins} (h : text_reader_ins a0 = some r) :
  Valid (Lx γ) 41 [V.ref o0 0] ob (V.agg [vint .i64 r.2.Op, vint .i64 r.2.D.Kind, vint .i64 r.2.D.N, vint .i64 r.2.A.Kind, vint .i64 r.2.A.N, vint .i64 r.2.B.Kind, vint .i64 r.2.B.N, vint .i64 r.2.C.Kind, vint .i64 r.2.C.N, vint .i64 r.2.N, vint .i64 r.2.M, V.row ob.length 0 0 (List.length r.2.Args)]) ((List.set ob o0 (some (O.box [V.tr (.sl 1 false (List.map (eI .u8) r.1.b)), vint .i64 r.1.err]))) ++ [some (O.row 2 0 (List.map e_Loc r.2.Args))]) := by
 refine valid_X (lx_ok γ) (fn := Tryd.f41) (rs := [.cell 2 49]) Tryd.func41 (by kernel_rfl) rfl rfl Tryd.ntmps41 rfl (by simp) fun hb hob => ?_
 have hoa0 := getO_lt hx0
 refine X_ob (set_own hx0) ?_
 have hsA : ∀ (x : Option O) (l : OT), getO (List.set ob o0 x ++ l) o0 = x := fun _ _ => getO_selfA hoa0
 have hsB : ∀ (x : Option O), getO (List.set ob o0 x) o0 = x := fun _ => getO_self hoa0
 have hsC : ∀ (x y : Option O) (l : OT), List.set (List.set ob o0 x ++ l) o0 y = List.set ob o0 y ++ l := fun _ _ _ => set_selfA hoa0
 rw [text_reader_ins] at h
 refine X_seq ?_
 refine X_reg (lx_ok γ) ?_
 simp -implicitDefEqProofs only [go_sem, seval, hsA, hsB, hsC]
 refine X_seq ?_
 refine X_reg (lx_ok γ) ?_
 obtain ⟨x1, f1, h⟩ := bindE h
 simp -implicitDefEqProofs only [go_sem, seval, hsA, hsB, hsC]
 refine callV_eq (text_reader_within_ok γ _ (by simp -implicitDefEqProofs only [go_sem, seval, hsA, hsB, hsC]; try rfl) f1) rfl rfl ?_
 simp -implicitDefEqProofs only [go_sem, seval, hsA, hsB, hsC]
 refine X_seq ?_
 refine X_reg (lx_ok γ) ?_
 obtain ⟨x2, f2, h⟩ := bindE h
 simp -implicitDefEqProofs only [go_sem, seval, hsA, hsB, hsC]
 refine callV_eq (text_Parts_ok γ _  f2) rfl rfl ?_
 simp -implicitDefEqProofs only [go_sem, seval, hsA, hsB, hsC]
 refine X_seq ?_
 refine X_jq (J := fun as1 ob1 => ∃ (x3 : Int), text_reader_ins.j1 x1 x2 x3 = some r ∧ [(0, V.ref o0 0), (2, V.ref ob.length 0), (3, vstr x2.1)] = as1 ∧ (List.set ob o0 (some (O.box [V.tr (.sl 1 false (List.map (eI .u8) x1.1.b)), vint .i64 x3]))) ++ [some (O.box [vint .i64 x1.2, vint .i64 0, vint .i64 0, vint .i64 0, vint .i64 0, vint .i64 0, vint .i64 0, vint .i64 0, vint .i64 0, vint .i64 0, vint .i64 0, V.tr (.sl 0 true [])])] = ob1) ?_ ?_
 ·rintro as1 ob1 ⟨x3, h, rfl, rfl⟩
  rw [text_reader_ins.j1] at h
  simp -implicitDefEqProofs only [go_sem, seval, hsA, hsB, hsC]
  refine X_seq ?_
  refine X_seq ?_
  refine X_reg (lx_ok γ) ?_
  obtain ⟨x4, f3, h⟩ := bindE h
  have f4 : ByteArray.size x2.1 ≤ 140737488355328 := of_decide_eq_true (chkB_some f3).1
  have f5 : bytesE x2.1 = List.map (eI .u8) x4 := by rw [(chkB_some f3).2, bytesE_eq]
  simp -implicitDefEqProofs only [go_sem, seval, hsA, hsB, hsC, f4, f5]
  refine X_jq (J := fun as1 ob1 => ∃ (x5 : List Loc) (x6 : Int) (x7 : Int) (x8 : Int) (x9 : Int) (x10 : Int) (x11 : Int) (x12 : Int) (x13 : Int) (x14 : Int) (x15 : Int) (x16 : List Int) (x17 : Int), text_reader_ins.k1 x1 x5 x6 x7 x8 x9 x10 x11 x12 x13 x14 x15 x16 x17 = some r ∧ [(2, V.ref ob.length 0)] = as1 ∧ (List.set ob o0 (some (O.box [V.tr (.sl 1 false (List.map (eI .u8) x16)), vint .i64 x17]))) ++ [some (O.box [vint .i64 x1.2, vint .i64 x6, vint .i64 x7, vint .i64 x8, vint .i64 x9, vint .i64 x10, vint .i64 x11, vint .i64 x12, vint .i64 x13, vint .i64 x14, vint .i64 x15, V.row (ob.length + 1) 0 0 (List.length x5)]), some (O.row 2 0 (List.map e_Loc x5))] = ob1) ?_ ?_
  ·rintro as1 ob1 ⟨x5, x6, x7, x8, x9, x10, x11, x12, x13, x14, x15, x16, x17, h, rfl, rfl⟩
   rw [text_reader_ins.k1] at h
   simp -implicitDefEqProofs only [go_sem, seval, hsA, hsB, hsC]
   refine X_seq ?_
   refine X_reg (lx_ok γ) ?_
   simp -implicitDefEqProofs only [go_sem, seval, hsA, hsB, hsC]
   obtain rfl := Option.some.inj h
   refine X_ret ?_
   simp -implicitDefEqProofs only [go_sem, seval, hsA, hsB, hsC]
   exact Rt.mv [(1, 0)] (BaseR.set hob (.box _ _ (by exact ⟨VLe.self (by simp [*]), VLe.self (by simp [*]), trivial⟩))) (by simp) (by decide) (VM.agg ⟨VM.self (by simp), VM.self (by simp), VM.self (by simp), VM.self (by simp), VM.self (by simp), VM.self (by simp), VM.self (by simp), VM.self (by simp), VM.self (by simp), VM.self (by simp), VM.self (by simp), VM.rowL (j := 1) (t := 0) rfl (by first | rfl | simp | simp_all | omega), trivial⟩) ⟨⟨_, rfl, OM.row' (by first | rfl | simp_all)⟩, trivial⟩
  ·refine X_block ?_
   obtain ⟨lr1, hl1, hk1, hr1⟩ := aft2 h
   refine X_forN hl1 (fun (i1 : Nat) (s : (List Loc) × Int × Int × Int × Int × Int × Int × Int × Int × Int × Int × (List Int) × Int) as1 ob1 => [(0, V.ref o0 0), (2, V.ref ob.length 0), (29, V.tr (.sl 1 false (List.map (eI .u8) x4))), (30, vint .i64 (List.length x4 : Int)), (31, vint .i64 (i1 : Int))] = as1 ∧ (List.set ob o0 (some (O.box [V.tr (.sl 1 false (List.map (eI .u8) s.2.2.2.2.2.2.2.2.2.2.2.1)), vint .i64 s.2.2.2.2.2.2.2.2.2.2.2.2]))) ++ [some (O.box [vint .i64 x1.2, vint .i64 s.2.1, vint .i64 s.2.2.1, vint .i64 s.2.2.2.1, vint .i64 s.2.2.2.2.1, vint .i64 s.2.2.2.2.2.1, vint .i64 s.2.2.2.2.2.2.1, vint .i64 s.2.2.2.2.2.2.2.1, vint .i64 s.2.2.2.2.2.2.2.2.1, vint .i64 s.2.2.2.2.2.2.2.2.2.1, vint .i64 s.2.2.2.2.2.2.2.2.2.2.1, V.row (ob.length + 1) 0 0 (List.length s.1)]), some (O.row 2 0 (List.map e_Loc s.1))] = ob1) ⟨_, _, ?_, rfl, rfl⟩ ?_ ?_
   ·exact To.trans (To.gh (as' := [(0, _), (2, _), (29, _), (30, _), (31, _)]) (l' := [some (O.box [_, _, _, _, _, _, _, _, _, _, _, V.row (ob.length + 1) 0 0 0])]) 2 ⟨VG.refl _ _ _, VG.refl _ _ _, VG.refl _ _ _, VG.refl _ _ _, VG.refl _ _ _, trivial⟩ ⟨Or.inr ⟨_, _, rfl, rfl, .box _ _ ⟨VG.refl _ _ _, VG.refl _ _ _, VG.refl _ _ _, VG.refl _ _ _, VG.refl _ _ _, VG.refl _ _ _, VG.refl _ _ _, VG.refl _ _ _, VG.refl _ _ _, VG.refl _ _ _, VG.refl _ _ _, VG.nilL, trivial⟩⟩, trivial⟩) (To.mv [(0, 0), (1, 0)] (BaseR.set hob (.box _ _ (by exact ⟨VLe.self (by simp [*]), VLe.self (by simp [*]), trivial⟩))) (by simp) (by decide) (by simp only [go_sem]; exact ⟨VM.self (by simp [*]), VM.refA (j := 0) (t := 0) rfl, VM.self (by simp), VM.self (by simp), VM.eqv (by simp) (by simp)⟩) ⟨⟨_, rfl, OM.box _ _ ⟨VM.self (by simp), VM.self (by simp), VM.self (by simp), VM.self (by simp), VM.self (by simp), VM.self (by simp), VM.self (by simp), VM.self (by simp), VM.self (by simp), VM.self (by simp), VM.self (by simp), VM.rowL (j := 1) (t := 1) rfl (by simp), trivial⟩⟩, ⟨_, rfl, OM.row' rfl⟩, trivial⟩)
   ·rintro i1 ⟨x5, x6, x7, x8, x9, x10, x11, x12, x13, x14, x15, x16, x17⟩ o1 hi1 hw1 h ho1 as1 ob1 ⟨rfl, rfl⟩
    rw [text_reader_ins.b1] at h
    refine X_seq ?_
    refine X_reg (lx_ok γ) ?_
    simp -implicitDefEqProofs only [go_sem, seval, hi1, hsA, hsB, hsC]
    refine X_seq ?_
    refine X_cond (lx_ok γ) ?_
    simp -implicitDefEqProofs only [go_sem, seval, hi1, hsA, hsB, hsC]
    refine X_skip ?_
    try simp -implicitDefEqProofs only [go_sem]
    refine X_seq ?_
    refine X_block ?_
    refine X_seq ?_
    refine X_reg (lx_ok γ) ?_
    obtain ⟨x19, f6, h⟩ := bindE h
    obtain ⟨f7, f8⟩ := ixL_nat f6
    have f9 : (0 : Int) ≤ (i1 : Int) := Int.natCast_nonneg _
    simp -implicitDefEqProofs only [go_sem, seval, hi1, hsA, hsB, hsC, f7, f8, f9]
    refine X_seq ?_
    refine X_reg (lx_ok γ) ?_
    simp -implicitDefEqProofs only [go_sem, seval, hi1, hsA, hsB, hsC]
    refine X_block ?_
    refine X_seq ?_
    refine X_reg (lx_ok γ) ?_
    simp -implicitDefEqProofs only [go_sem, seval, hi1, hsA, hsB, hsC]
    cases f10 : (x19 == 78)
    ·rw [if_neg (ne_true_of_eq_false f10)] at h
     refine X_cond (lx_ok γ) ?_
     simp -implicitDefEqProofs only [go_sem, seval, hi1, f10, hsA, hsB, hsC]
     refine X_seq ?_
     refine X_reg (lx_ok γ) ?_
     simp -implicitDefEqProofs only [go_sem, seval, hi1, f10, hsA, hsB, hsC]
     cases f11 : (x19 == 77)
     ·rw [if_neg (ne_true_of_eq_false f11)] at h
      refine X_cond (lx_ok γ) ?_
      simp -implicitDefEqProofs only [go_sem, seval, hi1, f10, f11, hsA, hsB, hsC]
      refine X_seq ?_
      refine X_reg (lx_ok γ) ?_
      simp -implicitDefEqProofs only [go_sem, seval, hi1, f10, f11, hsA, hsB, hsC]
      cases f12 : (x19 == 110)
      ·rw [if_neg (ne_true_of_eq_false f12)] at h
       refine X_cond (lx_ok γ) ?_
       simp -implicitDefEqProofs only [go_sem, seval, hi1, f10, f11, f12, hsA, hsB, hsC]
       refine X_seq ?_
       refine X_reg (lx_ok γ) ?_
       simp -implicitDefEqProofs only [go_sem, seval, hi1, f10, f11, f12, hsA, hsB, hsC]
       cases f13 : (x19 == 76)
       ·rw [if_neg (ne_true_of_eq_false f13)] at h
        refine X_cond (lx_ok γ) ?_
        simp -implicitDefEqProofs only [go_sem, seval, hi1, f10, f11, f12, f13, hsA, hsB, hsC]
        refine X_reg (lx_ok γ) ?_
        cases f14 : (x19 == 68)
        ·rw [if_neg (ne_true_of_eq_false f14)] at h
         cases f15 : (x19 == 65)
         ·rw [if_neg (ne_true_of_eq_false f15)] at h
          cases f16 : (x19 == 66)
          ·rw [if_neg (ne_true_of_eq_false f16)] at h
           have f17 : text_loc (Mins.mk x1.2 (Loc.mk x6 x7) (Loc.mk x8 x9) (Loc.mk x10 x11) (Loc.mk x12 x13) x14 x15 x5) x19 = some 7 := by simp only [text_loc, hi1, f10, f11, f12, f13, f14, f15, f16, if_true, if_false, Bool.false_eq_true]
           simp -implicitDefEqProofs only [go_sem, seval, hi1, f10, f11, f12, f13, f14, f15, f16, hsA, hsB, hsC]
           refine callV_eq (text_loc_ok γ _ (by simp -implicitDefEqProofs only [go_sem, seval, hi1, f10, f11, f12, f13, hsA, hsB, hsC]; try rfl) f17) rfl rfl ?_
           obtain ⟨x20, f18, h⟩ := bindE h
           simp -implicitDefEqProofs only [go_sem, seval, hi1, f10, f11, f12, f13, f14, f15, f16, hsA, hsB, hsC]
           refine callV_eq (text_reader_loc_ok γ _ (by simp -implicitDefEqProofs only [go_sem, seval, hi1, f10, f11, f12, f13, f14, f15, f16, hsA, hsB, hsC]; try rfl) f18) rfl rfl ?_
           simp -implicitDefEqProofs only [go_sem, seval, hi1, f10, f11, f12, f13, f14, f15, f16, hsA, hsB, hsC]
           refine X_reg (lx_ok γ) ?_
           obtain rfl := Option.some.inj h
           simp -implicitDefEqProofs only [go_sem, seval, hi1, f10, f11, f12, f13, f14, f15, f16, hsA, hsB, hsC]
           refine kR_in rfl ?_ ⟨rfl, rfl⟩
           exact To.mv [(0, 0), (1, 0)] (BaseR.set hob (.box _ _ (by exact ⟨VLe.self (by simp [*]), VLe.self (by simp [*]), trivial⟩))) (by simp) (by decide) (by simp only [go_sem]; exact ⟨VM.self (by simp [*]), VM.refA (j := 0) (t := 0) rfl, VM.self (by simp), VM.self (by simp), VM.eqv (by rw [hw1]) (by simp)⟩) ⟨⟨_, rfl, OM.box _ _ ⟨VM.self (by simp), VM.self (by simp), VM.self (by simp), VM.self (by simp), VM.self (by simp), VM.self (by simp), VM.self (by simp), VM.self (by simp), VM.self (by simp), VM.self (by simp), VM.self (by simp), VM.rowL (j := 1) (t := 1) rfl (by first | rfl | simp | simp_all | omega), trivial⟩⟩, ⟨_, rfl, OM.row' (by first | rfl | simp_all)⟩, trivial⟩
          ·rw [if_pos f16] at h
           have f19 : text_loc (Mins.mk x1.2 (Loc.mk x6 x7) (Loc.mk x8 x9) (Loc.mk x10 x11) (Loc.mk x12 x13) x14 x15 x5) x19 = some 5 := by simp only [text_loc, hi1, f10, f11, f12, f13, f14, f15, f16, if_true, if_false, Bool.false_eq_true]
           simp -implicitDefEqProofs only [go_sem, seval, hi1, f10, f11, f12, f13, f14, f15, f16, hsA, hsB, hsC]
           refine callV_eq (text_loc_ok γ _ (by simp -implicitDefEqProofs only [go_sem, seval, hi1, f10, f11, f12, f13, hsA, hsB, hsC]; try rfl) f19) rfl rfl ?_
           obtain ⟨x21, f20, h⟩ := bindE h
           simp -implicitDefEqProofs only [go_sem, seval, hi1, f10, f11, f12, f13, f14, f15, f16, hsA, hsB, hsC]
           refine callV_eq (text_reader_loc_ok γ _ (by simp -implicitDefEqProofs only [go_sem, seval, hi1, f10, f11, f12, f13, f14, f15, f16, hsA, hsB, hsC]; try rfl) f20) rfl rfl ?_
           simp -implicitDefEqProofs only [go_sem, seval, hi1, f10, f11, f12, f13, f14, f15, f16, hsA, hsB, hsC]
           refine X_reg (lx_ok γ) ?_
           obtain rfl := Option.some.inj h
           simp -implicitDefEqProofs only [go_sem, seval, hi1, f10, f11, f12, f13, f14, f15, f16, hsA, hsB, hsC]
           refine kR_in rfl ?_ ⟨rfl, rfl⟩
           exact To.mv [(0, 0), (1, 0)] (BaseR.set hob (.box _ _ (by exact ⟨VLe.self (by simp [*]), VLe.self (by simp [*]), trivial⟩))) (by simp) (by decide) (by simp only [go_sem]; exact ⟨VM.self (by simp [*]), VM.refA (j := 0) (t := 0) rfl, VM.self (by simp), VM.self (by simp), VM.eqv (by rw [hw1]) (by simp)⟩) ⟨⟨_, rfl, OM.box _ _ ⟨VM.self (by simp), VM.self (by simp), VM.self (by simp), VM.self (by simp), VM.self (by simp), VM.self (by simp), VM.self (by simp), VM.self (by simp), VM.self (by simp), VM.self (by simp), VM.self (by simp), VM.rowL (j := 1) (t := 1) rfl (by first | rfl | simp | simp_all | omega), trivial⟩⟩, ⟨_, rfl, OM.row' (by first | rfl | simp_all)⟩, trivial⟩
         ·rw [if_pos f15] at h
          have f21 : text_loc (Mins.mk x1.2 (Loc.mk x6 x7) (Loc.mk x8 x9) (Loc.mk x10 x11) (Loc.mk x12 x13) x14 x15 x5) x19 = some 3 := by simp only [text_loc, hi1, f10, f11, f12, f13, f14, f15, if_true, if_false, Bool.false_eq_true]
          simp -implicitDefEqProofs only [go_sem, seval, hi1, f10, f11, f12, f13, f14, f15, hsA, hsB, hsC]
          refine callV_eq (text_loc_ok γ _ (by simp -implicitDefEqProofs only [go_sem, seval, hi1, f10, f11, f12, f13, hsA, hsB, hsC]; try rfl) f21) rfl rfl ?_
          obtain ⟨x22, f22, h⟩ := bindE h
          simp -implicitDefEqProofs only [go_sem, seval, hi1, f10, f11, f12, f13, f14, f15, hsA, hsB, hsC]
          refine callV_eq (text_reader_loc_ok γ _ (by simp -implicitDefEqProofs only [go_sem, seval, hi1, f10, f11, f12, f13, f14, f15, hsA, hsB, hsC]; try rfl) f22) rfl rfl ?_
          simp -implicitDefEqProofs only [go_sem, seval, hi1, f10, f11, f12, f13, f14, f15, hsA, hsB, hsC]
          refine X_reg (lx_ok γ) ?_
          obtain rfl := Option.some.inj h
          simp -implicitDefEqProofs only [go_sem, seval, hi1, f10, f11, f12, f13, f14, f15, hsA, hsB, hsC]
          refine kR_in rfl ?_ ⟨rfl, rfl⟩
          exact To.mv [(0, 0), (1, 0)] (BaseR.set hob (.box _ _ (by exact ⟨VLe.self (by simp [*]), VLe.self (by simp [*]), trivial⟩))) (by simp) (by decide) (by simp only [go_sem]; exact ⟨VM.self (by simp [*]), VM.refA (j := 0) (t := 0) rfl, VM.self (by simp), VM.self (by simp), VM.eqv (by rw [hw1]) (by simp)⟩) ⟨⟨_, rfl, OM.box _ _ ⟨VM.self (by simp), VM.self (by simp), VM.self (by simp), VM.self (by simp), VM.self (by simp), VM.self (by simp), VM.self (by simp), VM.self (by simp), VM.self (by simp), VM.self (by simp), VM.self (by simp), VM.rowL (j := 1) (t := 1) rfl (by first | rfl | simp | simp_all | omega), trivial⟩⟩, ⟨_, rfl, OM.row' (by first | rfl | simp_all)⟩, trivial⟩
        ·rw [if_pos f14] at h
         have f23 : text_loc (Mins.mk x1.2 (Loc.mk x6 x7) (Loc.mk x8 x9) (Loc.mk x10 x11) (Loc.mk x12 x13) x14 x15 x5) x19 = some 1 := by simp only [text_loc, hi1, f10, f11, f12, f13, f14, if_true, if_false, Bool.false_eq_true]
         simp -implicitDefEqProofs only [go_sem, seval, hi1, f10, f11, f12, f13, f14, hsA, hsB, hsC]
         refine callV_eq (text_loc_ok γ _ (by simp -implicitDefEqProofs only [go_sem, seval, hi1, f10, f11, f12, f13, hsA, hsB, hsC]; try rfl) f23) rfl rfl ?_
         obtain ⟨x23, f24, h⟩ := bindE h
         simp -implicitDefEqProofs only [go_sem, seval, hi1, f10, f11, f12, f13, f14, hsA, hsB, hsC]
         refine callV_eq (text_reader_loc_ok γ _ (by simp -implicitDefEqProofs only [go_sem, seval, hi1, f10, f11, f12, f13, f14, hsA, hsB, hsC]; try rfl) f24) rfl rfl ?_
         simp -implicitDefEqProofs only [go_sem, seval, hi1, f10, f11, f12, f13, f14, hsA, hsB, hsC]
         refine X_reg (lx_ok γ) ?_
         obtain rfl := Option.some.inj h
         simp -implicitDefEqProofs only [go_sem, seval, hi1, f10, f11, f12, f13, f14, hsA, hsB, hsC]
         refine kR_in rfl ?_ ⟨rfl, rfl⟩
         exact To.mv [(0, 0), (1, 0)] (BaseR.set hob (.box _ _ (by exact ⟨VLe.self (by simp [*]), VLe.self (by simp [*]), trivial⟩))) (by simp) (by decide) (by simp only [go_sem]; exact ⟨VM.self (by simp [*]), VM.refA (j := 0) (t := 0) rfl, VM.self (by simp), VM.self (by simp), VM.eqv (by rw [hw1]) (by simp)⟩) ⟨⟨_, rfl, OM.box _ _ ⟨VM.self (by simp), VM.self (by simp), VM.self (by simp), VM.self (by simp), VM.self (by simp), VM.self (by simp), VM.self (by simp), VM.self (by simp), VM.self (by simp), VM.self (by simp), VM.self (by simp), VM.rowL (j := 1) (t := 1) rfl (by first | rfl | simp | simp_all | omega), trivial⟩⟩, ⟨_, rfl, OM.row' (by first | rfl | simp_all)⟩, trivial⟩
       ·rw [if_pos f13] at h
        refine X_cond (lx_ok γ) ?_
        simp -implicitDefEqProofs only [go_sem, seval, hi1, f10, f11, f12, f13, hsA, hsB, hsC]
        refine X_seq ?_
        refine X_reg (lx_ok γ) ?_
        obtain ⟨x24, f25, h⟩ := bindE h
        simp -implicitDefEqProofs only [go_sem, seval, hi1, f10, f11, f12, f13, hsA, hsB, hsC]
        refine callV_eq (text_reader_within_ok γ _ (by simp -implicitDefEqProofs only [go_sem, seval, hi1, f10, f11, f12, f13, hsA, hsB, hsC]; try rfl) f25) rfl rfl ?_
        simp -implicitDefEqProofs only [go_sem, seval, hi1, f10, f11, f12, f13, hsA, hsB, hsC]
        refine X_jq (J := fun as1 ob1 => ∃ (x25 : List Loc) (x26 : List Int) (x27 : Int), text_reader_ins.k2 x6 x7 x8 x9 x10 x11 x12 x13 x14 x15 x25 x26 x27 = some o1 ∧ [(0, V.ref o0 0), (2, V.ref ob.length 0), (29, V.tr (.sl 1 false (List.map (eI .u8) x4))), (30, vint .i64 (List.length x4 : Int)), (31, vint .i64 (i1 : Int))] = as1 ∧ (List.set ob o0 (some (O.box [V.tr (.sl 1 false (List.map (eI .u8) x26)), vint .i64 x27]))) ++ [some (O.box [vint .i64 x1.2, vint .i64 x6, vint .i64 x7, vint .i64 x8, vint .i64 x9, vint .i64 x10, vint .i64 x11, vint .i64 x12, vint .i64 x13, vint .i64 x14, vint .i64 x15, V.row (ob.length + 1) 0 0 (List.length x25)]), some (O.row 2 0 (List.map e_Loc x25))] = ob1) ?_ ?_
        ·rintro as1 ob1 ⟨x25, x26, x27, h, rfl, rfl⟩
         rw [text_reader_ins.k2] at h
         simp -implicitDefEqProofs only [go_sem, seval, hi1, f10, f11, f12, f13, hsA, hsB, hsC]
         refine X_reg (lx_ok γ) ?_
         obtain rfl := Option.some.inj h
         simp -implicitDefEqProofs only [go_sem, seval, hi1, f10, f11, f12, f13, hsA, hsB, hsC]
         refine kR_in rfl ?_ ⟨rfl, rfl⟩
         exact To.mv [(0, 0), (1, 0)] (BaseR.set hob (.box _ _ (by exact ⟨VLe.self (by simp [*]), VLe.self (by simp [*]), trivial⟩))) (by simp) (by decide) (by simp only [go_sem]; exact ⟨VM.self (by simp [*]), VM.refA (j := 0) (t := 0) rfl, VM.self (by simp), VM.self (by simp), VM.eqv (by rw [hw1]) (by simp)⟩) ⟨⟨_, rfl, OM.box _ _ ⟨VM.self (by simp), VM.self (by simp), VM.self (by simp), VM.self (by simp), VM.self (by simp), VM.self (by simp), VM.self (by simp), VM.self (by simp), VM.self (by simp), VM.self (by simp), VM.self (by simp), VM.rowL (j := 1) (t := 1) rfl (by first | rfl | simp | simp_all | omega), trivial⟩⟩, ⟨_, rfl, OM.row' (by first | rfl | simp_all)⟩, trivial⟩
        ·refine X_block ?_
         obtain ⟨lr2, hl2, hk2, hr2⟩ := aft2 h
         refine X_forN hl2 (fun (i2 : Nat) (s : (List Loc) × (List Int) × Int) as1 ob1 => [(0, V.ref o0 0), (2, V.ref ob.length 0), (29, V.tr (.sl 1 false (List.map (eI .u8) x4))), (30, vint .i64 (List.length x4 : Int)), (31, vint .i64 (i1 : Int)), (59, vint .i64 x24.2), (60, vint .i64 (i2 : Int))] = as1 ∧ (List.set ob o0 (some (O.box [V.tr (.sl 1 false (List.map (eI .u8) s.2.1)), vint .i64 s.2.2]))) ++ [some (O.box [vint .i64 x1.2, vint .i64 x6, vint .i64 x7, vint .i64 x8, vint .i64 x9, vint .i64 x10, vint .i64 x11, vint .i64 x12, vint .i64 x13, vint .i64 x14, vint .i64 x15, V.row (ob.length + 1) 0 0 (List.length s.1)]), some (O.row 2 0 (List.map e_Loc s.1))] = ob1) ⟨_, _, ?_, rfl, rfl⟩ ?_ ?_
         ·exact To.mv [(0, 0), (1, 0)] (BaseR.set hob (.box _ _ (by exact ⟨VLe.self (by simp [*]), VLe.self (by simp [*]), trivial⟩))) (by simp) (by decide) (by simp only [go_sem]; exact ⟨VM.self (by simp [*]), VM.refA (j := 0) (t := 0) rfl, VM.self (by simp), VM.self (by simp), VM.self (by simp), VM.self (by simp), VM.eqv (by simp) (by simp)⟩) ⟨⟨_, rfl, OM.box _ _ ⟨VM.self (by simp), VM.self (by simp), VM.self (by simp), VM.self (by simp), VM.self (by simp), VM.self (by simp), VM.self (by simp), VM.self (by simp), VM.self (by simp), VM.self (by simp), VM.self (by simp), VM.rowL (j := 1) (t := 1) rfl (by first | rfl | simp | simp_all | omega), trivial⟩⟩, ⟨_, rfl, OM.row' (by first | rfl | simp_all)⟩, trivial⟩
         ·rintro i2 ⟨x25, x26, x27⟩ o2 hi2 hw2 h ho2 as1 ob1 ⟨rfl, rfl⟩
          rw [text_reader_ins.b2] at h
          refine X_seq ?_
          refine X_reg (lx_ok γ) ?_
          simp -implicitDefEqProofs only [go_sem, seval, hi1, f10, f11, f12, f13, hi2, hsA, hsB, hsC]
          refine X_seq ?_
          refine X_cond (lx_ok γ) ?_
          simp -implicitDefEqProofs only [go_sem, seval, hi1, f10, f11, f12, f13, hi2, hsA, hsB, hsC]
          refine X_skip ?_
          try simp -implicitDefEqProofs only [go_sem]
          refine X_seq ?_
          refine X_block ?_
          refine X_drawn (lx_ok γ) [[], [0], [], [2], [2, 3], [0, 1, 2, 3, 4], [0, 1, 2, 3, 4, 5], [0, 1, 2, 3, 4, 5, 6]] (fun i => match i with | 3 => true | 5 => true | 7 => true | _ => false) (by kernel_rfl) ?_
          obtain ⟨x29, f26, h⟩ := bindE h
          try simp -implicitDefEqProofs only [go_sem, seval, hi1, f10, f11, f12, f13, hi2, hsA, hsB, hsC, cmpr, List.getD_cons_zero, List.getD_cons_succ, List.contains_cons, List.contains_nil, Nat.reduceBEq, Bool.false_or, Bool.or_false, Bool.true_or, Bool.or_true, beq_self_eq_true]
          refine callV_eq (text_reader_loc_ok γ _ (by simp -implicitDefEqProofs only [go_sem, seval, hi1, f10, f11, f12, f13, hi2, hsA, hsB, hsC]; try rfl) f26) rfl rfl ?_
          obtain ⟨x30, f27, h⟩ := bindE h
          have f28 : List.length x30 * 16 ≤ 140737488355328 := by have := (appL_some f27).1; rw [(appL_some f27).2]; simpa using this
          have f29 : List.map e_Loc x25 ++ [[.lit (.int .i64 x29.2.Kind), .lit (.int .i64 x29.2.N)]] = List.map e_Loc x30 := by rw [(appL_some f27).2]; simp [eB, eI, eS, e_Loc]
          have f30 : List.length x25 + 1 = List.length x30 := by rw [(appL_some f27).2]; simp
          try simp -implicitDefEqProofs only [go_sem, seval, hi1, f10, f11, f12, f13, hi2, hsA, hsB, hsC, f28, f29, f30, cmpr, List.getD_cons_zero, List.getD_cons_succ, List.contains_cons, List.contains_nil, Nat.reduceBEq, Bool.false_or, Bool.or_false, Bool.true_or, Bool.or_true, beq_self_eq_true]
          refine X_reg (lx_ok γ) ?_
          obtain rfl := Option.some.inj h
          simp -implicitDefEqProofs only [go_sem, seval, hi1, f10, f11, f12, f13, hi2, hsA, hsB, hsC]
          refine kR_in rfl ?_ ⟨rfl, rfl⟩
          exact To.mv [(0, 0), (1, 1)] (BaseR.set hob (.box _ _ (by exact ⟨VLe.self (by simp [*]), VLe.self (by simp [*]), trivial⟩))) (by simp) (by decide) (by simp only [go_sem]; exact ⟨VM.self (by simp [*]), VM.refA (j := 0) (t := 0) rfl, VM.self (by simp), VM.self (by simp), VM.self (by simp), VM.self (by simp), VM.eqv (by rw [hw2]) (by simp)⟩) ⟨⟨_, rfl, OM.box _ _ ⟨VM.self (by simp), VM.self (by simp), VM.self (by simp), VM.self (by simp), VM.self (by simp), VM.self (by simp), VM.self (by simp), VM.self (by simp), VM.self (by simp), VM.self (by simp), VM.self (by simp), VM.rowL (j := 1) (t := 1) rfl (by first | rfl | simp | simp_all | omega), trivial⟩⟩, ⟨_, rfl, OM.row' (by first | rfl | simp_all)⟩, trivial⟩
         ·rintro i2 ⟨x25, x26, x27⟩ hi2 hn2 as1 ob1 ⟨rfl, rfl⟩
          refine X_seq ?_
          refine X_reg (lx_ok γ) ?_
          simp -implicitDefEqProofs only [go_sem, seval, hi1, f10, f11, f12, f13, hi2, hsA, hsB, hsC]
          refine X_seq ?_
          refine X_cond (lx_ok γ) ?_
          simp -implicitDefEqProofs only [go_sem, seval, hi1, f10, f11, f12, f13, hi2, hsA, hsB, hsC]
          have h := hk2 _ (.inl hn2)
          refine X_exit ?_
          try simp -implicitDefEqProofs only [go_sem, ↓reduceIte, Nat.reduceEqDiff, reduceCtorEq]
          refine kJ_in ?_ ⟨x25, x26, x27, h, rfl, rfl⟩
          exact To.mv [(0, 0), (1, 0)] (BaseR.set hob (.box _ _ (by exact ⟨VLe.self (by simp [*]), VLe.self (by simp [*]), trivial⟩))) (by simp) (by decide) (by simp only [go_sem]; exact ⟨VM.self (by simp [*]), VM.refA (j := 0) (t := 0) rfl, VM.self (by simp), VM.self (by simp), VM.self (by simp)⟩) ⟨⟨_, rfl, OM.box _ _ ⟨VM.self (by simp), VM.self (by simp), VM.self (by simp), VM.self (by simp), VM.self (by simp), VM.self (by simp), VM.self (by simp), VM.self (by simp), VM.self (by simp), VM.self (by simp), VM.self (by simp), VM.rowL (j := 1) (t := 1) rfl (by first | rfl | simp | simp_all | omega), trivial⟩⟩, ⟨_, rfl, OM.row' (by first | rfl | simp_all)⟩, trivial⟩
      ·rw [if_pos f12] at h
       refine X_cond (lx_ok γ) ?_
       simp -implicitDefEqProofs only [go_sem, seval, hi1, f10, f11, f12, hsA, hsB, hsC]
       refine X_reg (lx_ok γ) ?_
       obtain ⟨x31, f31, h⟩ := bindE h
       simp -implicitDefEqProofs only [go_sem, seval, hi1, f10, f11, f12, hsA, hsB, hsC]
       refine callV_eq (text_reader_take_ok γ _ (by simp -implicitDefEqProofs only [go_sem, seval, hi1, f10, f11, f12, hsA, hsB, hsC]; try rfl) (fun ob1 y0 r hx => by exact varint_GetSigned_ok γ _  hx) f31) rfl rfl ?_
       simp -implicitDefEqProofs only [go_sem, seval, hi1, f10, f11, f12, hsA, hsB, hsC]
       refine X_reg (lx_ok γ) ?_
       obtain rfl := Option.some.inj h
       simp -implicitDefEqProofs only [go_sem, seval, hi1, f10, f11, f12, hsA, hsB, hsC]
       refine kR_in rfl ?_ ⟨rfl, rfl⟩
       exact To.mv [(0, 0), (1, 0)] (BaseR.set hob (.box _ _ (by exact ⟨VLe.self (by simp [*]), VLe.self (by simp [*]), trivial⟩))) (by simp) (by decide) (by simp only [go_sem]; exact ⟨VM.self (by simp [*]), VM.refA (j := 0) (t := 0) rfl, VM.self (by simp), VM.self (by simp), VM.eqv (by rw [hw1]) (by simp)⟩) ⟨⟨_, rfl, OM.box _ _ ⟨VM.self (by simp), VM.self (by simp), VM.self (by simp), VM.self (by simp), VM.self (by simp), VM.self (by simp), VM.self (by simp), VM.self (by simp), VM.self (by simp), VM.self (by simp), VM.self (by simp), VM.rowL (j := 1) (t := 1) rfl (by first | rfl | simp | simp_all | omega), trivial⟩⟩, ⟨_, rfl, OM.row' (by first | rfl | simp_all)⟩, trivial⟩
     ·rw [if_pos f11] at h
      refine X_cond (lx_ok γ) ?_
      simp -implicitDefEqProofs only [go_sem, seval, hi1, f10, f11, hsA, hsB, hsC]
      refine X_reg (lx_ok γ) ?_
      obtain ⟨x32, f32, h⟩ := bindE h
      simp -implicitDefEqProofs only [go_sem, seval, hi1, f10, f11, hsA, hsB, hsC]
      refine callV_eq (text_reader_within_ok γ _ (by simp -implicitDefEqProofs only [go_sem, seval, hi1, f10, f11, hsA, hsB, hsC]; try rfl) f32) rfl rfl ?_
      simp -implicitDefEqProofs only [go_sem, seval, hi1, f10, f11, hsA, hsB, hsC]
      refine X_reg (lx_ok γ) ?_
      obtain rfl := Option.some.inj h
      simp -implicitDefEqProofs only [go_sem, seval, hi1, f10, f11, hsA, hsB, hsC]
      refine kR_in rfl ?_ ⟨rfl, rfl⟩
      exact To.mv [(0, 0), (1, 0)] (BaseR.set hob (.box _ _ (by exact ⟨VLe.self (by simp [*]), VLe.self (by simp [*]), trivial⟩))) (by simp) (by decide) (by simp only [go_sem]; exact ⟨VM.self (by simp [*]), VM.refA (j := 0) (t := 0) rfl, VM.self (by simp), VM.self (by simp), VM.eqv (by rw [hw1]) (by simp)⟩) ⟨⟨_, rfl, OM.box _ _ ⟨VM.self (by simp), VM.self (by simp), VM.self (by simp), VM.self (by simp), VM.self (by simp), VM.self (by simp), VM.self (by simp), VM.self (by simp), VM.self (by simp), VM.self (by simp), VM.self (by simp), VM.rowL (j := 1) (t := 1) rfl (by first | rfl | simp | simp_all | omega), trivial⟩⟩, ⟨_, rfl, OM.row' (by first | rfl | simp_all)⟩, trivial⟩
    ·rw [if_pos f10] at h
     refine X_cond (lx_ok γ) ?_
     simp -implicitDefEqProofs only [go_sem, seval, hi1, f10, hsA, hsB, hsC]
     refine X_reg (lx_ok γ) ?_
     obtain ⟨x33, f33, h⟩ := bindE h
     simp -implicitDefEqProofs only [go_sem, seval, hi1, f10, hsA, hsB, hsC]
     refine callV_eq (text_reader_within_ok γ _ (by simp -implicitDefEqProofs only [go_sem, seval, hi1, f10, hsA, hsB, hsC]; try rfl) f33) rfl rfl ?_
     simp -implicitDefEqProofs only [go_sem, seval, hi1, f10, hsA, hsB, hsC]
     refine X_reg (lx_ok γ) ?_
     obtain rfl := Option.some.inj h
     simp -implicitDefEqProofs only [go_sem, seval, hi1, f10, hsA, hsB, hsC]
     refine kR_in rfl ?_ ⟨rfl, rfl⟩
     exact To.mv [(0, 0), (1, 0)] (BaseR.set hob (.box _ _ (by exact ⟨VLe.self (by simp [*]), VLe.self (by simp [*]), trivial⟩))) (by simp) (by decide) (by simp only [go_sem]; exact ⟨VM.self (by simp [*]), VM.refA (j := 0) (t := 0) rfl, VM.self (by simp), VM.self (by simp), VM.eqv (by rw [hw1]) (by simp)⟩) ⟨⟨_, rfl, OM.box _ _ ⟨VM.self (by simp), VM.self (by simp), VM.self (by simp), VM.self (by simp), VM.self (by simp), VM.self (by simp), VM.self (by simp), VM.self (by simp), VM.self (by simp), VM.self (by simp), VM.self (by simp), VM.rowL (j := 1) (t := 1) rfl (by first | rfl | simp | simp_all | omega), trivial⟩⟩, ⟨_, rfl, OM.row' (by first | rfl | simp_all)⟩, trivial⟩
   ·rintro i1 ⟨x5, x6, x7, x8, x9, x10, x11, x12, x13, x14, x15, x16, x17⟩ hi1 hn1 as1 ob1 ⟨rfl, rfl⟩
    refine X_seq ?_
    refine X_reg (lx_ok γ) ?_
    simp -implicitDefEqProofs only [go_sem, seval, hi1, hsA, hsB, hsC]
    refine X_seq ?_
    refine X_cond (lx_ok γ) ?_
    simp -implicitDefEqProofs only [go_sem, seval, hi1, hsA, hsB, hsC]
    have h := hk1 _ (.inl hn1)
    refine X_exit ?_
    try simp -implicitDefEqProofs only [go_sem, ↓reduceIte, Nat.reduceEqDiff, reduceCtorEq]
    refine kJ_in ?_ ⟨x5, x6, x7, x8, x9, x10, x11, x12, x13, x14, x15, x16, x17, h, rfl, rfl⟩
    exact To.mv [(0, 0), (1, 0)] (BaseR.set hob (.box _ _ (by exact ⟨VLe.self (by simp [*]), VLe.self (by simp [*]), trivial⟩))) (by simp) (by decide) (by simp only [go_sem]; exact VM.refA (j := 0) (t := 0) rfl) ⟨⟨_, rfl, OM.box _ _ ⟨VM.self (by simp), VM.self (by simp), VM.self (by simp), VM.self (by simp), VM.self (by simp), VM.self (by simp), VM.self (by simp), VM.self (by simp), VM.self (by simp), VM.self (by simp), VM.self (by simp), VM.rowL (j := 1) (t := 1) rfl (by first | rfl | simp | simp_all | omega), trivial⟩⟩, ⟨_, rfl, OM.row' (by first | rfl | simp_all)⟩, trivial⟩
 ·refine X_seq ?_
  refine X_reg (lx_ok γ) ?_
  cases f34 : x2.2
  ·rw [if_neg (ne_true_of_eq_false f34)] at h
   simp -implicitDefEqProofs only [go_sem, seval, f34, hsA, hsB, hsC]
   cases f35 : (x1.1.err == 0)
   ·rw [if_neg (ne_true_of_eq_false f35)] at h
    refine X_cond (lx_ok γ) ?_
    simp -implicitDefEqProofs only [go_sem, seval, f34, f35, hsA, hsB, hsC]
    refine X_skip ?_
    try simp -implicitDefEqProofs only [go_sem]
    refine kJ_in ?_ ⟨x1.1.err, h, rfl, rfl⟩
    exact To.mv [(0, 0)] (BaseR.set hob (.box _ _ (by exact ⟨VLe.self (by simp [*]), VLe.self (by simp [*]), trivial⟩))) (by simp) (by decide) (by simp only [go_sem]; exact ⟨VM.self (by simp [*]), VM.refA (j := 0) (t := 0) rfl, VM.self (by simp)⟩) ⟨⟨_, rfl, OM.box _ _ ⟨VM.self (by simp), VM.self (by simp), VM.self (by simp), VM.self (by simp), VM.self (by simp), VM.self (by simp), VM.self (by simp), VM.self (by simp), VM.self (by simp), VM.self (by simp), VM.self (by simp), VM.self (by simp), trivial⟩⟩, trivial⟩
   ·rw [if_pos f35] at h
    refine X_cond (lx_ok γ) ?_
    simp -implicitDefEqProofs only [go_sem, seval, f34, f35, hsA, hsB, hsC]
    refine X_reg (lx_ok γ) ?_
    simp -implicitDefEqProofs only [go_sem, seval, f34, f35, hsA, hsB, hsC]
    refine kJ_in ?_ ⟨5, h, rfl, rfl⟩
    exact To.mv [(0, 0)] (BaseR.set hob (.box _ _ (by exact ⟨VLe.self (by simp [*]), VLe.self (by simp [*]), trivial⟩))) (by simp) (by decide) (by simp only [go_sem]; exact ⟨VM.self (by simp [*]), VM.refA (j := 0) (t := 0) rfl, VM.self (by simp)⟩) ⟨⟨_, rfl, OM.box _ _ ⟨VM.self (by simp), VM.self (by simp), VM.self (by simp), VM.self (by simp), VM.self (by simp), VM.self (by simp), VM.self (by simp), VM.self (by simp), VM.self (by simp), VM.self (by simp), VM.self (by simp), VM.self (by simp), trivial⟩⟩, trivial⟩
  ·rw [if_pos f34] at h
   simp -implicitDefEqProofs only [go_sem, seval, f34, hsA, hsB, hsC]
   refine X_condF (lx_ok γ) rfl ?_
   refine X_skip ?_
   try simp -implicitDefEqProofs only [go_sem]
   refine kJ_in ?_ ⟨x1.1.err, h, rfl, rfl⟩
   exact To.mv [(0, 0)] (BaseR.set hob (.box _ _ (by exact ⟨VLe.self (by simp [*]), VLe.self (by simp [*]), trivial⟩))) (by simp) (by decide) (by simp only [go_sem]; exact ⟨VM.self (by simp [*]), VM.refA (j := 0) (t := 0) rfl, VM.self (by simp)⟩) ⟨⟨_, rfl, OM.box _ _ ⟨VM.self (by simp), VM.self (by simp), VM.self (by simp), VM.self (by simp), VM.self (by simp), VM.self (by simp), VM.self (by simp), VM.self (by simp), VM.self (by simp), VM.self (by simp), VM.self (by simp), VM.self (by simp), trivial⟩⟩, trivial⟩
end Go.Pf
end
section
set_option maxRecDepth 100000
namespace Go.Pf
open Go Go.Ab Go.Pp Go.Proofs Go.Proofs.S19
attribute [local go_sem] Lxτ Lxγ gam0 Int.toNat_natCast tau3 tau4 tau5 tau22 tau23 tau25 tau28 tau29 tau46 tau47 tau49 tau67 tau69 eI eB eS e_Loc e_Mins e_Text e_text_room e_text_reader e_portolanref19_reader
set_option maxHeartbeats 1000000 in
theorem text_Decode_ok (γ : GT) (ob : OT) {a0 : List Int} {r : Text × Int} (h : text_Decode a0 = some r) :
  Valid (Lx γ) 19 [V.tr (.sl 1 false (List.map (eI .u8) a0))] ob (V.tup [V.agg [V.tr (.sl 12 false (List.map e_Mins r.1.Code)), V.tr (.sl 1 false (List.map (eI .i64) r.1.Starts)), V.tr (.sl 1 false (List.map (eI .i64) r.1.Slots))], vint .i64 r.2]) ob := by
 refine valid_X (lx_ok γ) (fn := Tryd.f19) (rs := [.cell 2 25, .tmp 3]) Tryd.func19 (by kernel_rfl) rfl rfl Tryd.ntmps19 rfl (by simp) fun hb hob => ?_
 rw [text_Decode] at h
 refine X_seq ?_
 refine X_reg (lx_ok γ) ?_
 simp -implicitDefEqProofs only [go_sem, seval]
 refine X_seq ?_
 refine X_reg (lx_ok γ) ?_
 simp -implicitDefEqProofs only [go_sem, seval]
 refine X_seq ?_
 refine X_reg (lx_ok γ) ?_
 simp -implicitDefEqProofs only [go_sem, seval]
 refine X_seq ?_
 refine X_reg (lx_ok γ) ?_
 simp -implicitDefEqProofs only [go_sem, seval]
 refine X_seq ?_
 refine X_seq ?_
 refine X_reg (lx_ok γ) ?_
 obtain ⟨x1, f1, h⟩ := bindE h
 simp -implicitDefEqProofs only [go_sem, seval]
 refine callV_eq (text_reader_within_ok γ _ (by simp -implicitDefEqProofs only [go_sem, seval]; try rfl) f1) rfl rfl ?_
 simp -implicitDefEqProofs only [go_sem, seval]
 refine X_jq (J := fun as1 ob1 => ∃ (x2 : List Int) (x3 : List Int) (x4 : List Int) (x5 : Int) (x6 : Int), text_Decode.k1 x2 x3 x4 x5 x6 = some r ∧ [(2, V.ref ob.length 0), (4, V.ref (ob.length + 1) 0), (5, V.ref (ob.length + 2) 0), (6, vint .i64 x6)] = as1 ∧ ob ++ [some (O.box [V.tr (.sl 0 true []), V.tr (.sl 0 true []), V.tr (.sl 0 true [])]), some (O.box [V.tr (.sl 1 false (List.map (eI .u8) x4)), vint .i64 x5]), some (O.box [V.tr (.sl 0 true []), V.tr (.sl 1 false (List.map (eI .i64) x2)), V.tr (.sl 1 false (List.map (eI .i64) x3))])] = ob1) ?_ ?_
 ·rintro as1 ob1 ⟨x2, x3, x4, x5, x6, h, rfl, rfl⟩
  rw [text_Decode.k1] at h
  simp -implicitDefEqProofs only [go_sem, seval]
  refine X_seq ?_
  refine X_seq ?_
  refine X_reg (lx_ok γ) ?_
  simp -implicitDefEqProofs only [go_sem, seval]
  refine X_jq (J := fun as1 ob1 => ∃ (x8 : List Mins) (x9 : List Int) (x10 : Int), text_Decode.k2 x2 x3 x8 x9 x10 = some r ∧ [(2, V.ref ob.length 0), (4, V.ref (ob.length + 1) 0), (5, V.ref (ob.length + 2) 0)] = as1 ∧ ob ++ [some (O.box [V.tr (.sl 0 true []), V.tr (.sl 0 true []), V.tr (.sl 0 true [])]), some (O.box [V.tr (.sl 1 false (List.map (eI .u8) x9)), vint .i64 x10]), some (O.box [V.tr (.sl 12 false (List.map e_Mins x8)), V.tr (.sl 1 false (List.map (eI .i64) x2)), V.tr (.sl 1 false (List.map (eI .i64) x3))])] = ob1) ?_ ?_
  ·rintro as1 ob1 ⟨x8, x9, x10, h, rfl, rfl⟩
   rw [text_Decode.k2] at h
   simp -implicitDefEqProofs only [go_sem, seval]
   refine X_seq ?_
   refine X_jq (J := fun as1 ob1 => ∃ (x12 : Int), text_Decode.j1 x2 x3 x8 x12 = some r ∧ [(2, V.ref ob.length 0), (4, V.ref (ob.length + 1) 0), (5, V.ref (ob.length + 2) 0)] = as1 ∧ ob ++ [some (O.box [V.tr (.sl 0 true []), V.tr (.sl 0 true []), V.tr (.sl 0 true [])]), some (O.box [V.tr (.sl 1 false (List.map (eI .u8) x9)), vint .i64 x12]), some (O.box [V.tr (.sl 12 false (List.map e_Mins x8)), V.tr (.sl 1 false (List.map (eI .i64) x2)), V.tr (.sl 1 false (List.map (eI .i64) x3))])] = ob1) ?_ ?_
   ·rintro as1 ob1 ⟨x12, h, rfl, rfl⟩
    rw [text_Decode.j1] at h
    simp -implicitDefEqProofs only [go_sem, seval]
    refine X_seq ?_
    refine X_seq ?_
    refine X_reg (lx_ok γ) ?_
    simp -implicitDefEqProofs only [go_sem, seval]
    cases f2 : (x12 != 0)
    ·rw [if_neg (ne_true_of_eq_false f2)] at h
     refine X_cond (lx_ok γ) ?_
     simp -implicitDefEqProofs only [go_sem, seval, f2]
     refine X_skip ?_
     try simp -implicitDefEqProofs only [go_sem]
     refine X_seq ?_
     refine X_reg (lx_ok γ) ?_
     simp -implicitDefEqProofs only [go_sem, seval, f2]
     obtain rfl := Option.some.inj h
     refine X_ret ?_
     simp -implicitDefEqProofs only [go_sem, seval, f2]
     exact Rt.mv0 (BaseR.refl hob) (by simp) (VM.tup ⟨VM.agg ⟨VM.self (by simp), VM.self (by simp), VM.self (by simp), trivial⟩, VM.self (by simp), trivial⟩)
    ·rw [if_pos f2] at h
     refine X_cond (lx_ok γ) ?_
     simp -implicitDefEqProofs only [go_sem, seval, f2]
     refine X_seq ?_
     refine X_drawn (lx_ok γ) [[], [], [1], [1, 2], [1, 2, 3], [0], [0, 1, 2, 3, 4, 5]] (fun i => match i with | 5 => true | _ => false) (by kernel_rfl) ?_
     try simp -implicitDefEqProofs only [go_sem, seval, f2, cmpr, List.getD_cons_zero, List.getD_cons_succ, List.contains_cons, List.contains_nil, Nat.reduceBEq, Bool.false_or, Bool.or_false, Bool.true_or, Bool.or_true, beq_self_eq_true]
     obtain rfl := Option.some.inj h
     refine X_ret ?_
     simp -implicitDefEqProofs only [go_sem, seval, f2]
     exact Rt.mv0 (BaseR.refl hob) (by simp) (VM.tup ⟨VM.agg ⟨VM.nil _ _ _, VM.nil _ _ _, VM.nil _ _ _, trivial⟩, VM.self (by simp), trivial⟩)
   ·refine X_seq ?_
    refine X_reg (lx_ok γ) ?_
    cases f3 : (x10 == 0)
    ·rw [if_neg (ne_true_of_eq_false f3)] at h
     simp -implicitDefEqProofs only [go_sem, seval, f3]
     refine X_condF (lx_ok γ) rfl ?_
     refine X_skip ?_
     try simp -implicitDefEqProofs only [go_sem]
     refine kJ_in ?_ ⟨x10, h, rfl, rfl⟩
     exact To.mv [(0, 0), (1, 0), (2, 0)] (BaseR.refl hob) (by simp) (by decide) (by simp only [go_sem]; exact ⟨VM.refA (j := 0) (t := 0) rfl, VM.refA (j := 1) (t := 1) rfl, VM.refA (j := 2) (t := 2) rfl⟩) ⟨⟨_, rfl, OM.box _ _ ⟨VM.self (by simp), VM.self (by simp), VM.self (by simp), trivial⟩⟩, ⟨_, rfl, OM.box _ _ ⟨VM.self (by simp), VM.self (by simp), trivial⟩⟩, ⟨_, rfl, OM.box _ _ ⟨VM.self (by simp), VM.self (by simp), VM.self (by simp), trivial⟩⟩, trivial⟩
    ·rw [if_pos f3] at h
     cases f4 : decide (0 < (List.length x9 : Int))
     ·rw [if_neg (ne_true_of_eq_false f4)] at h
      obtain ⟨x13, f5, h⟩ := bindE h
      simp -implicitDefEqProofs only [go_sem, seval, f3, f4]
      refine callV_eq (text_Right_ok γ _  f5) rfl rfl ?_
      simp -implicitDefEqProofs only [go_sem, seval, f3, f4]
      cases f6 : x13
      ·rw [if_neg (ne_true_of_eq_false f6)] at h
       refine X_cond (lx_ok γ) ?_
       simp -implicitDefEqProofs only [go_sem, seval, f3, f4, f6]
       refine X_reg (lx_ok γ) ?_
       simp -implicitDefEqProofs only [go_sem, seval, f3, f4, f6]
       refine kJ_in ?_ ⟨5, h, rfl, rfl⟩
       exact To.mv [(0, 0), (1, 0), (2, 0)] (BaseR.refl hob) (by simp) (by decide) (by simp only [go_sem]; exact ⟨VM.refA (j := 0) (t := 0) rfl, VM.refA (j := 1) (t := 1) rfl, VM.refA (j := 2) (t := 2) rfl⟩) ⟨⟨_, rfl, OM.box _ _ ⟨VM.self (by simp), VM.self (by simp), VM.self (by simp), trivial⟩⟩, ⟨_, rfl, OM.box _ _ ⟨VM.self (by simp), VM.self (by simp), trivial⟩⟩, ⟨_, rfl, OM.box _ _ ⟨VM.self (by simp), VM.self (by simp), VM.self (by simp), trivial⟩⟩, trivial⟩
      ·rw [if_pos f6] at h
       refine X_cond (lx_ok γ) ?_
       simp -implicitDefEqProofs only [go_sem, seval, f3, f4, f6]
       refine X_skip ?_
       try simp -implicitDefEqProofs only [go_sem]
       refine kJ_in ?_ ⟨x10, h, rfl, rfl⟩
       exact To.mv [(0, 0), (1, 0), (2, 0)] (BaseR.refl hob) (by simp) (by decide) (by simp only [go_sem]; exact ⟨VM.refA (j := 0) (t := 0) rfl, VM.refA (j := 1) (t := 1) rfl, VM.refA (j := 2) (t := 2) rfl⟩) ⟨⟨_, rfl, OM.box _ _ ⟨VM.self (by simp), VM.self (by simp), VM.self (by simp), trivial⟩⟩, ⟨_, rfl, OM.box _ _ ⟨VM.self (by simp), VM.self (by simp), trivial⟩⟩, ⟨_, rfl, OM.box _ _ ⟨VM.self (by simp), VM.self (by simp), VM.self (by simp), trivial⟩⟩, trivial⟩
     ·rw [if_pos f4] at h
      simp -implicitDefEqProofs only [go_sem, seval, f3, f4]
      refine X_condT (lx_ok γ) rfl ?_
      refine X_reg (lx_ok γ) ?_
      simp -implicitDefEqProofs only [go_sem, seval, f3, f4]
      refine kJ_in ?_ ⟨5, h, rfl, rfl⟩
      exact To.mv [(0, 0), (1, 0), (2, 0)] (BaseR.refl hob) (by simp) (by decide) (by simp only [go_sem]; exact ⟨VM.refA (j := 0) (t := 0) rfl, VM.refA (j := 1) (t := 1) rfl, VM.refA (j := 2) (t := 2) rfl⟩) ⟨⟨_, rfl, OM.box _ _ ⟨VM.self (by simp), VM.self (by simp), VM.self (by simp), trivial⟩⟩, ⟨_, rfl, OM.box _ _ ⟨VM.self (by simp), VM.self (by simp), trivial⟩⟩, ⟨_, rfl, OM.box _ _ ⟨VM.self (by simp), VM.self (by simp), VM.self (by simp), trivial⟩⟩, trivial⟩
  ·refine X_block ?_
   obtain ⟨lr2, hl2, hk2, hr2⟩ := aft2 h
   refine X_forN hl2 (fun (i2 : Nat) (s : (List Mins) × (List Int) × Int) as1 ob1 => [(2, V.ref ob.length 0), (4, V.ref (ob.length + 1) 0), (5, V.ref (ob.length + 2) 0), (6, vint .i64 x6), (7, vint .i64 (i2 : Int))] = as1 ∧ ob ++ [some (O.box [V.tr (.sl 0 true []), V.tr (.sl 0 true []), V.tr (.sl 0 true [])]), some (O.box [V.tr (.sl 1 false (List.map (eI .u8) s.2.1)), vint .i64 s.2.2]), some (O.box [V.row (ob.length + 3) 0 0 (List.length s.1), V.tr (.sl 1 false (List.map (eI .i64) x2)), V.tr (.sl 1 false (List.map (eI .i64) x3))]), some (O.row 12 0 (List.map e_Mins s.1))] = ob1) ⟨_, _, ?_, rfl, rfl⟩ ?_ ?_
   ·exact To.trans (To.gh (as' := [(2, _), (4, _), (5, _), (6, _), (7, _)]) (l' := [some (O.box [_, _, _]), some (O.box [_, _]), some (O.box [V.row (ob.length + 3) 0 0 0, _, _])]) 12 ⟨VG.refl _ _ _, VG.refl _ _ _, VG.refl _ _ _, VG.refl _ _ _, VG.refl _ _ _, trivial⟩ ⟨Or.inl rfl, Or.inl rfl, Or.inr ⟨_, _, rfl, rfl, .box _ _ ⟨VG.nilL, VG.refl _ _ _, VG.refl _ _ _, trivial⟩⟩, trivial⟩) (To.mv [(0, 0), (1, 0), (2, 0), (3, 0)] (BaseR.refl hob) (by simp) (by decide) (by simp only [go_sem]; exact ⟨VM.refA (j := 0) (t := 0) rfl, VM.refA (j := 1) (t := 1) rfl, VM.refA (j := 2) (t := 2) rfl, VM.self (by simp), VM.eqv (by simp) (by simp)⟩) ⟨⟨_, rfl, OM.box _ _ ⟨VM.self (by simp), VM.self (by simp), VM.self (by simp), trivial⟩⟩, ⟨_, rfl, OM.box _ _ ⟨VM.self (by simp), VM.self (by simp), trivial⟩⟩, ⟨_, rfl, OM.box _ _ ⟨VM.rowL (j := 3) (t := 3) rfl (by simp), VM.self (by simp), VM.self (by simp), trivial⟩⟩, ⟨_, rfl, OM.row' rfl⟩, trivial⟩)
   ·rintro i2 ⟨x8, x9, x10⟩ o2 hi2 hw2 h ho2 as1 ob1 ⟨rfl, rfl⟩
    rw [text_Decode.b2] at h
    refine X_seq ?_
    refine X_seq ?_
    refine X_reg (lx_ok γ) ?_
    simp -implicitDefEqProofs only [go_sem, seval, hi2]
    cases f7 : (x10 == 0)
    ·rw [if_neg (ne_true_of_eq_false f7)] at h
     refine X_cond (lx_ok γ) ?_
     simp -implicitDefEqProofs only [go_sem, seval, hi2, f7]
     obtain rfl := Option.some.inj h
     have h := hk2 _ (.inr (ho2 (fun _ hs => nomatch hs)))
     refine X_exit ?_
     try simp -implicitDefEqProofs only [go_sem, ↓reduceIte, Nat.reduceEqDiff, reduceCtorEq]
     refine kJ_in ?_ ⟨x8, x9, x10, h, rfl, rfl⟩
     exact To.trans (To.frz (as' := [(2, V.ref ob.length 0), (4, V.ref (ob.length + 1) 0), (5, V.ref (ob.length + 2) 0)]) (l' := [some (O.box [V.tr (.sl 0 true []), V.tr (.sl 0 true []), V.tr (.sl 0 true [])]), some (O.box [V.tr (.sl 1 false (List.map (eI .u8) x9)), vint .i64 x10]), some (O.box [V.tr (.sl 12 false (List.map e_Mins x8)), V.tr (.sl 1 false (List.map (eI .i64) x2)), V.tr (.sl 1 false (List.map (eI .i64) x3))]), none]) 3 rfl ⟨VZ.refl, VZ.refl, VZ.refl, trivial⟩ ⟨Or.inr ⟨by omega, _, _, rfl, rfl, .same _⟩, Or.inr ⟨by omega, _, _, rfl, rfl, .same _⟩, Or.inr ⟨by omega, _, _, rfl, rfl, .box _ _ ⟨VZ.row (by first | rfl | simp), VZ.refl, VZ.refl, trivial⟩⟩, Or.inl rfl, trivial⟩) (To.mv [(0, 0), (1, 0), (2, 0)] (BaseR.refl hob) (by simp) (by decide) (by simp only [go_sem]; exact ⟨VM.refA (j := 0) (t := 0) rfl, VM.refA (j := 1) (t := 1) rfl, VM.refA (j := 2) (t := 2) rfl⟩) ⟨⟨_, rfl, OM.box _ _ ⟨VM.self (by simp), VM.self (by simp), VM.self (by simp), trivial⟩⟩, ⟨_, rfl, OM.box _ _ ⟨VM.self (by simp), VM.self (by simp), trivial⟩⟩, ⟨_, rfl, OM.box _ _ ⟨VM.self (by simp), VM.self (by simp), VM.self (by simp), trivial⟩⟩, trivial⟩)
    ·rw [if_pos f7] at h
     refine X_cond (lx_ok γ) ?_
     simp -implicitDefEqProofs only [go_sem, seval, hi2, f7]
     refine X_skip ?_
     try simp -implicitDefEqProofs only [go_sem]
     refine X_seq ?_
     refine X_block ?_
     refine X_drawn (lx_ok γ) [[], [0], [], [2], [2, 3], [0, 1, 2, 3, 4], [0, 1, 2, 3, 4, 5], [0, 1, 2, 3, 4, 5, 6]] (fun i => match i with | 3 => true | 4 => true | 5 => true | 7 => true | _ => false) (by kernel_rfl) ?_
     obtain ⟨x14, f8, h⟩ := bindE h
     try simp -implicitDefEqProofs only [go_sem, seval, hi2, f7, cmpr, List.getD_cons_zero, List.getD_cons_succ, List.contains_cons, List.contains_nil, Nat.reduceBEq, Bool.false_or, Bool.or_false, Bool.true_or, Bool.or_true, beq_self_eq_true]
     refine callV_eq (text_reader_ins_ok γ _ (by simp -implicitDefEqProofs only [go_sem, seval, hi2, f7]; try rfl) f8) rfl rfl ?_
     obtain ⟨x15, f9, h⟩ := bindE h
     have f10 : List.length x15 * 112 ≤ 140737488355328 := by have := (appL_some f9).1; rw [(appL_some f9).2]; simpa using this
     have f11 : List.map e_Mins x8 ++ [[.lit (.int .i64 x14.2.Op), .lit (.int .i64 x14.2.D.Kind), .lit (.int .i64 x14.2.D.N), .lit (.int .i64 x14.2.A.Kind), .lit (.int .i64 x14.2.A.N), .lit (.int .i64 x14.2.B.Kind), .lit (.int .i64 x14.2.B.N), .lit (.int .i64 x14.2.C.Kind), .lit (.int .i64 x14.2.C.N), .lit (.int .i64 x14.2.N), .lit (.int .i64 x14.2.M), .sl 2 false (List.map e_Loc x14.2.Args)]] = List.map e_Mins x15 := by rw [(appL_some f9).2]; simp [eB, eI, eS, e_Mins]
     have f12 : List.length x8 + 1 = List.length x15 := by rw [(appL_some f9).2]; simp
     try simp -implicitDefEqProofs only [go_sem, seval, hi2, f7, f10, f11, f12, cmpr, List.getD_cons_zero, List.getD_cons_succ, List.contains_cons, List.contains_nil, Nat.reduceBEq, Bool.false_or, Bool.or_false, Bool.true_or, Bool.or_true, beq_self_eq_true]
     refine X_reg (lx_ok γ) ?_
     obtain rfl := Option.some.inj h
     simp -implicitDefEqProofs only [go_sem, seval, hi2, f7]
     refine kR_in rfl ?_ ⟨rfl, rfl⟩
     exact To.mv [(0, 0), (1, 0), (2, 0), (3, 1)] (BaseR.refl hob) (by simp) (by decide) (by simp only [go_sem]; exact ⟨VM.refA (j := 0) (t := 0) rfl, VM.refA (j := 1) (t := 1) rfl, VM.refA (j := 2) (t := 2) rfl, VM.self (by simp), VM.eqv (by rw [hw2]) (by simp)⟩) ⟨⟨_, rfl, OM.box _ _ ⟨VM.self (by simp), VM.self (by simp), VM.self (by simp), trivial⟩⟩, ⟨_, rfl, OM.box _ _ ⟨VM.self (by simp), VM.self (by simp), trivial⟩⟩, ⟨_, rfl, OM.box _ _ ⟨VM.rowL (j := 3) (t := 3) rfl (by first | rfl | simp | simp_all | omega), VM.self (by simp), VM.self (by simp), trivial⟩⟩, ⟨_, rfl, OM.row' (by first | rfl | simp_all)⟩, trivial⟩
   ·rintro i2 ⟨x8, x9, x10⟩ hi2 hn2 as1 ob1 ⟨rfl, rfl⟩
    refine X_seq ?_
    refine X_seq ?_
    refine X_reg (lx_ok γ) ?_
    simp -implicitDefEqProofs only [go_sem, seval, hi2]
    refine X_condF (lx_ok γ) rfl ?_
    have h := hk2 _ (.inl hn2)
    refine X_exit ?_
    try simp -implicitDefEqProofs only [go_sem, ↓reduceIte, Nat.reduceEqDiff, reduceCtorEq]
    refine kJ_in ?_ ⟨x8, x9, x10, h, rfl, rfl⟩
    exact To.trans (To.frz (as' := [(2, V.ref ob.length 0), (4, V.ref (ob.length + 1) 0), (5, V.ref (ob.length + 2) 0)]) (l' := [some (O.box [V.tr (.sl 0 true []), V.tr (.sl 0 true []), V.tr (.sl 0 true [])]), some (O.box [V.tr (.sl 1 false (List.map (eI .u8) x9)), vint .i64 x10]), some (O.box [V.tr (.sl 12 false (List.map e_Mins x8)), V.tr (.sl 1 false (List.map (eI .i64) x2)), V.tr (.sl 1 false (List.map (eI .i64) x3))]), none]) 3 rfl ⟨VZ.refl, VZ.refl, VZ.refl, trivial⟩ ⟨Or.inr ⟨by omega, _, _, rfl, rfl, .same _⟩, Or.inr ⟨by omega, _, _, rfl, rfl, .same _⟩, Or.inr ⟨by omega, _, _, rfl, rfl, .box _ _ ⟨VZ.row (by first | rfl | simp), VZ.refl, VZ.refl, trivial⟩⟩, Or.inl rfl, trivial⟩) (To.mv [(0, 0), (1, 0), (2, 0)] (BaseR.refl hob) (by simp) (by decide) (by simp only [go_sem]; exact ⟨VM.refA (j := 0) (t := 0) rfl, VM.refA (j := 1) (t := 1) rfl, VM.refA (j := 2) (t := 2) rfl⟩) ⟨⟨_, rfl, OM.box _ _ ⟨VM.self (by simp), VM.self (by simp), VM.self (by simp), trivial⟩⟩, ⟨_, rfl, OM.box _ _ ⟨VM.self (by simp), VM.self (by simp), trivial⟩⟩, ⟨_, rfl, OM.box _ _ ⟨VM.self (by simp), VM.self (by simp), VM.self (by simp), trivial⟩⟩, trivial⟩)
 ·refine X_block ?_
  obtain ⟨lr1, hl1, hk1, hr1⟩ := aft2 h
  refine X_forN hl1 (fun (i1 : Nat) (s : (List Int) × (List Int) × (List Int) × Int × Int) as1 ob1 => [(2, V.ref ob.length 0), (4, V.ref (ob.length + 1) 0), (5, V.ref (ob.length + 2) 0), (6, vint .i64 s.2.2.2.2), (12, vint .i64 x1.2), (13, vint .i64 (i1 : Int))] = as1 ∧ ob ++ [some (O.box [V.tr (.sl 0 true []), V.tr (.sl 0 true []), V.tr (.sl 0 true [])]), some (O.box [V.tr (.sl 1 false (List.map (eI .u8) s.2.2.1)), vint .i64 s.2.2.2.1]), some (O.box [V.tr (.sl 0 true []), V.row (ob.length + 3) 0 0 (List.length s.1), V.row (ob.length + 4) 0 0 (List.length s.2.1)]), some (O.row 1 0 (List.map (eI .i64) s.1)), some (O.row 1 0 (List.map (eI .i64) s.2.1))] = ob1) ⟨_, _, ?_, rfl, rfl⟩ ?_ ?_
  ·exact To.trans (To.gh (as' := [(2, _), (4, _), (5, _), (6, _), (12, _), (13, _)]) (l' := [some (O.box [_, _, _]), some (O.box [_, _]), some (O.box [_, V.row (ob.length + 3) 0 0 0, _])]) 1 ⟨VG.refl _ _ _, VG.refl _ _ _, VG.refl _ _ _, VG.refl _ _ _, VG.refl _ _ _, VG.refl _ _ _, trivial⟩ ⟨Or.inl rfl, Or.inl rfl, Or.inr ⟨_, _, rfl, rfl, .box _ _ ⟨VG.refl _ _ _, VG.nilL, VG.refl _ _ _, trivial⟩⟩, trivial⟩) (To.trans (To.gh (as' := [(2, _), (4, _), (5, _), (6, _), (12, _), (13, _)]) (l' := [some (O.box [_, _, _]), some (O.box [_, _]), some (O.box [_, V.row (ob.length + 3) 0 0 0, V.row (ob.length + 4) 0 0 0]), _]) 1 ⟨VG.refl _ _ _, VG.refl _ _ _, VG.refl _ _ _, VG.refl _ _ _, VG.refl _ _ _, VG.refl _ _ _, trivial⟩ ⟨Or.inl rfl, Or.inl rfl, Or.inr ⟨_, _, rfl, rfl, .box _ _ ⟨VG.refl _ _ _, VG.refl _ _ _, VG.nilL, trivial⟩⟩, Or.inl rfl, trivial⟩) (To.mv [(0, 0), (1, 0), (2, 0), (3, 0), (4, 0)] (BaseR.refl hob) (by simp) (by decide) (by simp only [go_sem]; exact ⟨VM.refA (j := 0) (t := 0) rfl, VM.refA (j := 1) (t := 1) rfl, VM.refA (j := 2) (t := 2) rfl, VM.self (by simp), VM.self (by simp), VM.eqv (by simp) (by simp)⟩) ⟨⟨_, rfl, OM.box _ _ ⟨VM.self (by simp), VM.self (by simp), VM.self (by simp), trivial⟩⟩, ⟨_, rfl, OM.box _ _ ⟨VM.self (by simp), VM.self (by simp), trivial⟩⟩, ⟨_, rfl, OM.box _ _ ⟨VM.self (by simp), VM.rowL (j := 3) (t := 3) rfl (by simp), VM.rowL (j := 4) (t := 4) rfl (by simp), trivial⟩⟩, ⟨_, rfl, OM.row' rfl⟩, ⟨_, rfl, OM.row' rfl⟩, trivial⟩))
  ·rintro i1 ⟨x2, x3, x4, x5, x6⟩ o1 hi1 hw1 h ho1 as1 ob1 ⟨rfl, rfl⟩
   rw [text_Decode.b1] at h
   refine X_seq ?_
   refine X_reg (lx_ok γ) ?_
   simp -implicitDefEqProofs only [go_sem, seval, hi1]
   refine X_seq ?_
   refine X_cond (lx_ok γ) ?_
   simp -implicitDefEqProofs only [go_sem, seval, hi1]
   refine X_skip ?_
   try simp -implicitDefEqProofs only [go_sem]
   refine X_seq ?_
   refine X_block ?_
   refine X_seq ?_
   refine X_reg (lx_ok γ) ?_
   obtain ⟨x16, f13, h⟩ := bindE h
   have f14 : List.length x16 * 8 ≤ 140737488355328 := by have := (appL_some f13).1; rw [(appL_some f13).2]; simpa using this
   have f15 : List.map (eI .i64) x2 ++ [[.lit (.int .i64 x6)]] = List.map (eI .i64) x16 := by rw [(appL_some f13).2]; simp [eB, eI, eS]
   have f16 : List.length x2 + 1 = List.length x16 := by rw [(appL_some f13).2]; simp
   simp -implicitDefEqProofs only [go_sem, seval, hi1, f14, f15, f16]
   refine X_seq ?_
   refine X_drawn (lx_ok γ) [[], [0], [], [2], [2, 3], [0, 1, 2, 3, 4], [0, 1, 2, 3, 4, 5], [0, 1, 2, 3, 4, 5, 6]] (fun i => match i with | 3 => true | 5 => true | 7 => true | _ => false) (by kernel_rfl) ?_
   obtain ⟨x17, f17, h⟩ := bindE h
   try simp -implicitDefEqProofs only [go_sem, seval, hi1, cmpr, List.getD_cons_zero, List.getD_cons_succ, List.contains_cons, List.contains_nil, Nat.reduceBEq, Bool.false_or, Bool.or_false, Bool.true_or, Bool.or_true, beq_self_eq_true]
   refine callV_eq (text_reader_within_ok γ _ (by simp -implicitDefEqProofs only [go_sem, seval, hi1]; try rfl) f17) rfl rfl ?_
   obtain ⟨x18, f18, h⟩ := bindE h
   have f19 : List.length x18 * 8 ≤ 140737488355328 := by have := (appL_some f18).1; rw [(appL_some f18).2]; simpa using this
   have f20 : List.map (eI .i64) x3 ++ [[.lit (.int .i64 x17.2)]] = List.map (eI .i64) x18 := by rw [(appL_some f18).2]; simp [eB, eI, eS]
   have f21 : List.length x3 + 1 = List.length x18 := by rw [(appL_some f18).2]; simp
   try simp -implicitDefEqProofs only [go_sem, seval, hi1, f19, f20, f21, cmpr, List.getD_cons_zero, List.getD_cons_succ, List.contains_cons, List.contains_nil, Nat.reduceBEq, Bool.false_or, Bool.or_false, Bool.true_or, Bool.or_true, beq_self_eq_true]
   refine X_reg (lx_ok γ) ?_
   obtain ⟨x19, f22, h⟩ := bindE h
   simp -implicitDefEqProofs only [go_sem, seval, hi1]
   refine callV_eq (text_reader_within_ok γ _ (by simp -implicitDefEqProofs only [go_sem, seval, hi1]; try rfl) f22) rfl rfl ?_
   simp -implicitDefEqProofs only [go_sem, seval, hi1]
   refine X_reg (lx_ok γ) ?_
   obtain rfl := Option.some.inj h
   simp -implicitDefEqProofs only [go_sem, seval, hi1]
   refine kR_in rfl ?_ ⟨rfl, rfl⟩
   exact To.mv [(0, 0), (1, 0), (2, 0), (3, 1), (4, 1)] (BaseR.refl hob) (by simp) (by decide) (by simp only [go_sem]; exact ⟨VM.refA (j := 0) (t := 0) rfl, VM.refA (j := 1) (t := 1) rfl, VM.refA (j := 2) (t := 2) rfl, VM.self (by simp), VM.self (by simp), VM.eqv (by rw [hw1]) (by simp)⟩) ⟨⟨_, rfl, OM.box _ _ ⟨VM.self (by simp), VM.self (by simp), VM.self (by simp), trivial⟩⟩, ⟨_, rfl, OM.box _ _ ⟨VM.self (by simp), VM.self (by simp), trivial⟩⟩, ⟨_, rfl, OM.box _ _ ⟨VM.self (by simp), VM.rowL (j := 3) (t := 3) rfl (by first | rfl | simp | simp_all | omega), VM.rowL (j := 4) (t := 4) rfl (by first | rfl | simp | simp_all | omega), trivial⟩⟩, ⟨_, rfl, OM.row' (by first | rfl | simp_all)⟩, ⟨_, rfl, OM.row' (by first | rfl | simp_all)⟩, trivial⟩
  ·rintro i1 ⟨x2, x3, x4, x5, x6⟩ hi1 hn1 as1 ob1 ⟨rfl, rfl⟩
   refine X_seq ?_
   refine X_reg (lx_ok γ) ?_
   simp -implicitDefEqProofs only [go_sem, seval, hi1]
   refine X_seq ?_
   refine X_cond (lx_ok γ) ?_
   simp -implicitDefEqProofs only [go_sem, seval, hi1]
   have h := hk1 _ (.inl hn1)
   refine X_exit ?_
   try simp -implicitDefEqProofs only [go_sem, ↓reduceIte, Nat.reduceEqDiff, reduceCtorEq]
   refine kJ_in ?_ ⟨x2, x3, x4, x5, x6, h, rfl, rfl⟩
   exact To.trans (To.frz (as' := [(2, V.ref ob.length 0), (4, V.ref (ob.length + 1) 0), (5, V.ref (ob.length + 2) 0), (6, vint .i64 x6)]) (l' := [some (O.box [V.tr (.sl 0 true []), V.tr (.sl 0 true []), V.tr (.sl 0 true [])]), some (O.box [V.tr (.sl 1 false (List.map (eI .u8) x4)), vint .i64 x5]), some (O.box [V.tr (.sl 0 true []), V.tr (.sl 1 false (List.map (eI .i64) x2)), V.row (ob.length + 4) 0 0 (List.length x3)]), none, some (O.row 1 0 (List.map (eI .i64) x3))]) 3 rfl ⟨VZ.refl, VZ.refl, VZ.refl, VZ.refl, trivial⟩ ⟨Or.inr ⟨by omega, _, _, rfl, rfl, .same _⟩, Or.inr ⟨by omega, _, _, rfl, rfl, .same _⟩, Or.inr ⟨by omega, _, _, rfl, rfl, .box _ _ ⟨VZ.refl, VZ.row (by first | rfl | simp), VZ.refl, trivial⟩⟩, Or.inl rfl, Or.inr ⟨by omega, _, _, rfl, rfl, .same _⟩, trivial⟩) (To.trans (To.frz (as' := [(2, V.ref ob.length 0), (4, V.ref (ob.length + 1) 0), (5, V.ref (ob.length + 2) 0), (6, vint .i64 x6)]) (l' := [some (O.box [V.tr (.sl 0 true []), V.tr (.sl 0 true []), V.tr (.sl 0 true [])]), some (O.box [V.tr (.sl 1 false (List.map (eI .u8) x4)), vint .i64 x5]), some (O.box [V.tr (.sl 0 true []), V.tr (.sl 1 false (List.map (eI .i64) x2)), V.tr (.sl 1 false (List.map (eI .i64) x3))]), none, none]) 4 rfl ⟨VZ.refl, VZ.refl, VZ.refl, VZ.refl, trivial⟩ ⟨Or.inr ⟨by omega, _, _, rfl, rfl, .same _⟩, Or.inr ⟨by omega, _, _, rfl, rfl, .same _⟩, Or.inr ⟨by omega, _, _, rfl, rfl, .box _ _ ⟨VZ.refl, VZ.refl, VZ.row (by first | rfl | simp), trivial⟩⟩, Or.inl rfl, Or.inl rfl, trivial⟩) (To.mv [(0, 0), (1, 0), (2, 0)] (BaseR.refl hob) (by simp) (by decide) (by simp only [go_sem]; exact ⟨VM.refA (j := 0) (t := 0) rfl, VM.refA (j := 1) (t := 1) rfl, VM.refA (j := 2) (t := 2) rfl, VM.self (by simp)⟩) ⟨⟨_, rfl, OM.box _ _ ⟨VM.self (by simp), VM.self (by simp), VM.self (by simp), trivial⟩⟩, ⟨_, rfl, OM.box _ _ ⟨VM.self (by simp), VM.self (by simp), trivial⟩⟩, ⟨_, rfl, OM.box _ _ ⟨VM.self (by simp), VM.self (by simp), VM.self (by simp), trivial⟩⟩, trivial⟩))
end Go.Pf
end
section
set_option maxRecDepth 100000
namespace Go.Pf
open Go Go.Ab Go.Pp Go.Proofs Go.Proofs.S19
attribute [local go_sem] Lxτ Lxγ gam0 Int.toNat_natCast tau3 tau23 eI eB eS e_Loc e_Mins e_Text e_text_room e_text_reader e_portolanref19_reader
set_option maxHeartbeats 1000000 in
theorem portolanref01_Ints_ok (γ : GT) (ob : OT) {a0 : List Int} {v0 : V} {a1 : List Int} {v1 : V} (hv0 : rdK (getO ob) 1 v0 = some (List.map (eI .i64) a0)) (hv1 : rdK (getO ob) 1 v1 = some (List.map (eI .i64) a1)) {r : Bool} (h : portolanref01_Ints a0 a1 = some r) :
  Valid (Lx γ) 44 [v0, v1] ob (vbool r) ob := by
 refine valid_X (lx_ok γ) (fn := Tryd.f44) (rs := [.tmp 4]) Tryd.func44 (by kernel_rfl) rfl rfl Tryd.ntmps44 rfl (by simp) fun hb hob => ?_
 have hq := And.intro (rd4 hv0) (rd4 hv1)
 rw [portolanref01_Ints] at h
 refine X_seq ?_
 refine X_reg (lx_ok γ) ?_
 simp -implicitDefEqProofs only [go_sem, seval, hq]
 refine X_seq ?_
 refine X_seq ?_
 refine X_reg (lx_ok γ) ?_
 simp -implicitDefEqProofs only [go_sem, seval, hq]
 cases f1 : ((List.length a0 : Int) != (List.length a1 : Int))
 ·rw [if_neg (ne_true_of_eq_false f1)] at h
  refine X_cond (lx_ok γ) ?_
  simp -implicitDefEqProofs only [go_sem, seval, f1, hq]
  refine X_skip ?_
  try simp -implicitDefEqProofs only [go_sem]
  refine X_seq ?_
  refine X_seq ?_
  refine X_reg (lx_ok γ) ?_
  simp -implicitDefEqProofs only [go_sem, seval, f1, hq]
  refine X_jq (J := fun as1 ob1 => portolanref01_Ints.k1 = some r ∧ [] = as1 ∧ ob = ob1) ?_ ?_
  ·rintro as1 ob1 ⟨h, rfl, rfl⟩
   rw [portolanref01_Ints.k1] at h
   simp -implicitDefEqProofs only [go_sem, seval, f1, hq]
   refine X_seq ?_
   refine X_reg (lx_ok γ) ?_
   simp -implicitDefEqProofs only [go_sem, seval, f1, hq]
   obtain rfl := Option.some.inj h
   refine X_ret ?_
   simp -implicitDefEqProofs only [go_sem, seval, f1, hq]
   exact Rt.mv1 (BaseR.refl hob) (by simp) (VM.self (by simp))
  ·refine X_block ?_
   obtain ⟨lr1, hl1, hk1, hr1⟩ := aft2 h
   refine X_forN hl1 (fun (i1 : Nat) (s : Unit) as1 ob1 => [(0, v0), (1, v1), (5, vint .i64 (i1 : Int))] = as1 ∧ ob = ob1) ⟨_, _, ?_, rfl, rfl⟩ ?_ ?_
   ·exact To.mv1 (BaseR.refl hob) (by simp) (by simp only [go_sem]; exact ⟨VM.self (by simpa using Bd.of_rdK hv0), VM.self (by simpa using Bd.of_rdK hv1), VM.eqv (by simp) (by simp)⟩)
   ·rintro i1 _ o1 hi1 hw1 h ho1 as1 ob1 ⟨rfl, rfl⟩
    rw [portolanref01_Ints.b1] at h
    refine X_seq ?_
    refine X_seq ?_
    refine X_reg (lx_ok γ) ?_
    simp -implicitDefEqProofs only [go_sem, seval, f1, hi1, hq]
    refine X_cond (lx_ok γ) ?_
    simp -implicitDefEqProofs only [go_sem, seval, f1, hi1, hq]
    refine X_skip ?_
    try simp -implicitDefEqProofs only [go_sem]
    refine X_seq ?_
    refine X_block ?_
    refine X_seq ?_
    refine X_drawn (lx_ok γ) [[], [], [0, 1], [0, 1, 2], [], [], [4, 5], [4, 5, 6], [0, 1, 2, 3, 4, 5, 6, 7]] (fun i => match i with | _ => false) (by kernel_rfl) ?_
    obtain ⟨x2, f2, h⟩ := bindE h
    obtain ⟨f3, f4⟩ := ixL_nat f2
    have f5 : (0 : Int) ≤ (i1 : Int) := Int.natCast_nonneg _
    obtain ⟨x3, f6, h⟩ := bindE h
    obtain ⟨f7, f8⟩ := ixL_nat f6
    have f9 : (0 : Int) ≤ (i1 : Int) := Int.natCast_nonneg _
    try simp -implicitDefEqProofs only [go_sem, seval, f1, hi1, hq, f3, f4, f5, f7, f8, f9, cmpr, List.getD_cons_zero, List.getD_cons_succ, List.contains_cons, List.contains_nil, Nat.reduceBEq, Bool.false_or, Bool.or_false, Bool.true_or, Bool.or_true, beq_self_eq_true]
    cases f10 : (x2 != x3)
    ·rw [if_neg (ne_true_of_eq_false f10)] at h
     refine X_cond (lx_ok γ) ?_
     simp -implicitDefEqProofs only [go_sem, seval, f1, hi1, f10, hq, f3, f4, f5, f7, f8, f9]
     refine X_skip ?_
     try simp -implicitDefEqProofs only [go_sem]
     refine X_reg (lx_ok γ) ?_
     obtain rfl := Option.some.inj h
     simp -implicitDefEqProofs only [go_sem, seval, f1, hi1, f10, hq]
     refine kR_in rfl ?_ ⟨rfl, rfl⟩
     exact To.mv1 (BaseR.refl hob) (by simp) (by simp only [go_sem]; exact ⟨VM.self (by simpa using Bd.of_rdK hv0), VM.self (by simpa using Bd.of_rdK hv1), VM.eqv (by rw [hw1]) (by simp)⟩)
    ·rw [if_pos f10] at h
     refine X_cond (lx_ok γ) ?_
     simp -implicitDefEqProofs only [go_sem, seval, f1, hi1, f10, hq, f3, f4, f5, f7, f8, f9]
     refine X_seq ?_
     refine X_reg (lx_ok γ) ?_
     simp -implicitDefEqProofs only [go_sem, seval, f1, hi1, f10, hq]
     obtain rfl := Option.some.inj h
     have h := hr1 _ (ho1 (fun _ hs => nomatch hs))
     obtain rfl := Option.some.inj h
     refine X_ret ?_
     simp -implicitDefEqProofs only [go_sem, seval, f1, hi1, f10, hq]
     exact Rt.mv1 (BaseR.refl hob) (by simp) (VM.self (by simp))
   ·rintro i1 _ hi1 hn1 as1 ob1 ⟨rfl, rfl⟩
    refine X_seq ?_
    refine X_seq ?_
    refine X_reg (lx_ok γ) ?_
    simp -implicitDefEqProofs only [go_sem, seval, f1, hi1, hq]
    refine X_cond (lx_ok γ) ?_
    simp -implicitDefEqProofs only [go_sem, seval, f1, hi1, hq]
    have h := hk1 _ (.inl hn1)
    refine X_exit ?_
    try simp -implicitDefEqProofs only [go_sem, ↓reduceIte, Nat.reduceEqDiff, reduceCtorEq]
    refine kJ_in ?_ ⟨h, rfl, rfl⟩
    exact To.mv1 (BaseR.refl hob) (by simp) trivial
 ·rw [if_pos f1] at h
  refine X_cond (lx_ok γ) ?_
  simp -implicitDefEqProofs only [go_sem, seval, f1, hq]
  refine X_seq ?_
  refine X_reg (lx_ok γ) ?_
  simp -implicitDefEqProofs only [go_sem, seval, f1, hq]
  obtain rfl := Option.some.inj h
  refine X_ret ?_
  simp -implicitDefEqProofs only [go_sem, seval, f1, hq]
  exact Rt.mv1 (BaseR.refl hob) (by simp) (VM.self (by simp))
end Go.Pf
end
