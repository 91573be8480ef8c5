/- The types of this program's functions, part 2 -/
import Derived.Test.YtmceiidhhpcjkaaDoorProg
import Derived.Test.YtmceiidhhpcjkaaDoorS1
set_option linter.all false
section
namespace Go.Proofs.S08
open Go Go.Ab Go.Proofs
def tys : List Nat := [3, 4, 5, 9, 21, 22, 24, 25, 27, 30, 33, 35, 36, 38, 39, 40, 41, 52, 54, 55, 56, 60, 61, 62, 64, 65, 67, 78, 85, 88, 90, 95, 99, 107, 109, 113, 115]
def eqs : List Nat := []
noncomputable def tau : TT := tauOf Tryd.prog eqs tys
theorem tau_chk : tauChk Tryd.prog tys = true := by kernel_rfl
theorem tau3 : tau 3 = some ⟨Go.TypeDesc.int Go.IntKind.i64, 1, 8, Go.Value.int Go.IntKind.i64 0, false⟩ := by kernel_rfl
theorem tau4 : tau 4 = some ⟨Go.TypeDesc.bool, 1, 1, Go.Value.bool Bool.false, false⟩ := by kernel_rfl
theorem tau5 : tau 5 = some ⟨Go.TypeDesc.int Go.IntKind.u8, 1, 1, Go.Value.int Go.IntKind.u8 0, false⟩ := by kernel_rfl
theorem tau9 : tau 9 = some ⟨Go.TypeDesc.string, 1, 16, Go.Value.string { data := #[] }, false⟩ := by kernel_rfl
theorem tau21 : tau 21 = some ⟨Go.TypeDesc.int Go.IntKind.i32, 1, 4, Go.Value.int Go.IntKind.i32 0, false⟩ := by kernel_rfl
theorem tau22 : tau 22 = some ⟨Go.TypeDesc.slice 35, 1, 24, Go.Value.slice Option.none 0 0, false⟩ := by kernel_rfl
theorem tau24 : tau 24 = some ⟨Go.TypeDesc.struct #[{ name := "Funcs", type := 22, offset := 0, embedded := Bool.false, tag := "", pkgPath := "", byteOffset := 0 }], 1, 24, Go.Value.agg #[Go.Value.slice Option.none 0 0], false⟩ := by kernel_rfl
theorem tau25 : tau 25 = some ⟨Go.TypeDesc.slice 3, 1, 24, Go.Value.slice Option.none 0 0, false⟩ := by kernel_rfl
theorem tau27 : tau 27 = some ⟨Go.TypeDesc.struct #[{ name := "Op", type := 3, offset := 0, embedded := Bool.false, tag := "", pkgPath := "", byteOffset := 0 }, { name := "D", type := 3, offset := 1, embedded := Bool.false, tag := "", pkgPath := "", byteOffset := 8 }, { name := "A", type := 3, offset := 2, embedded := Bool.false, tag := "", pkgPath := "", byteOffset := 16 }, { name := "B", type := 3, offset := 3, embedded := Bool.false, tag := "", pkgPath := "", byteOffset := 24 }, { name := "N", type := 3, offset := 4, embedded := Bool.false, tag := "", pkgPath := "", byteOffset := 32 }, { name := "M", type := 3, offset := 5, embedded := Bool.false, tag := "", pkgPath := "", byteOffset := 40 }, { name := "Args", type := 25, offset := 6, embedded := Bool.false, tag := "", pkgPath := "", byteOffset := 48 }], 7, 72, Go.Value.agg #[Go.Value.int Go.IntKind.i64 0, Go.Value.int Go.IntKind.i64 0, Go.Value.int Go.IntKind.i64 0, Go.Value.int Go.IntKind.i64 0, Go.Value.int Go.IntKind.i64 0, Go.Value.int Go.IntKind.i64 0, Go.Value.slice Option.none 0 0], false⟩ := by kernel_rfl
theorem tau30 : tau 30 = some ⟨Go.TypeDesc.int Go.IntKind.i64, 1, 8, Go.Value.int Go.IntKind.i64 0, false⟩ := by kernel_rfl
theorem tau33 : tau 33 = some ⟨Go.TypeDesc.slice 38, 1, 24, Go.Value.slice Option.none 0 0, false⟩ := by kernel_rfl
theorem tau35 : tau 35 = some ⟨Go.TypeDesc.struct #[{ name := "Kinds", type := 25, offset := 0, embedded := Bool.false, tag := "", pkgPath := "", byteOffset := 0 }, { name := "Base", type := 25, offset := 1, embedded := Bool.false, tag := "", pkgPath := "", byteOffset := 24 }, { name := "Params", type := 3, offset := 2, embedded := Bool.false, tag := "", pkgPath := "", byteOffset := 48 }, { name := "Result", type := 3, offset := 3, embedded := Bool.false, tag := "", pkgPath := "", byteOffset := 56 }, { name := "Blocks", type := 33, offset := 4, embedded := Bool.false, tag := "", pkgPath := "", byteOffset := 64 }], 5, 88, Go.Value.agg #[Go.Value.slice Option.none 0 0, Go.Value.slice Option.none 0 0, Go.Value.int Go.IntKind.i64 0, Go.Value.int Go.IntKind.i64 0, Go.Value.slice Option.none 0 0], false⟩ := by kernel_rfl
theorem tau36 : tau 36 = some ⟨Go.TypeDesc.slice 27, 1, 24, Go.Value.slice Option.none 0 0, false⟩ := by kernel_rfl
theorem tau38 : tau 38 = some ⟨Go.TypeDesc.struct #[{ name := "Code", type := 36, offset := 0, embedded := Bool.false, tag := "", pkgPath := "", byteOffset := 0 }], 1, 24, Go.Value.agg #[Go.Value.slice Option.none 0 0], false⟩ := by kernel_rfl
theorem tau41 : tau 41 = some ⟨Go.TypeDesc.slice 64, 1, 24, Go.Value.slice Option.none 0 0, false⟩ := by kernel_rfl
theorem tau52 : tau 52 = some ⟨Go.TypeDesc.func #[27] #[4] Bool.false, 1, 8, Go.Value.nilFunc, false⟩ := by kernel_rfl
theorem tau54 : tau 54 = some ⟨Go.TypeDesc.array 3 3, 3, 24, Go.Value.agg #[Go.Value.int Go.IntKind.i64 0, Go.Value.int Go.IntKind.i64 0, Go.Value.int Go.IntKind.i64 0], false⟩ := by kernel_rfl
theorem tau55 : tau 55 = some ⟨Go.TypeDesc.array 3 3, 3, 24, Go.Value.agg #[Go.Value.int Go.IntKind.i64 0, Go.Value.int Go.IntKind.i64 0, Go.Value.int Go.IntKind.i64 0], false⟩ := by kernel_rfl
theorem tau56 : tau 56 = some ⟨Go.TypeDesc.array 24 55, 72, 576, Go.Value.agg #[Go.Value.int Go.IntKind.i64 0, Go.Value.int Go.IntKind.i64 0, Go.Value.int Go.IntKind.i64 0, Go.Value.int Go.IntKind.i64 0, Go.Value.int Go.IntKind.i64 0, Go.Value.int Go.IntKind.i64 0, Go.Value.int Go.IntKind.i64 0, Go.Value.int Go.IntKind.i64 0, Go.Value.int Go.IntKind.i64 0, Go.Value.int Go.IntKind.i64 0, Go.Value.int Go.IntKind.i64 0, Go.Value.int Go.IntKind.i64 0, Go.Value.int Go.IntKind.i64 0, Go.Value.int Go.IntKind.i64 0, Go.Value.int Go.IntKind.i64 0, Go.Value.int Go.IntKind.i64 0, Go.Value.int Go.IntKind.i64 0, Go.Value.int Go.IntKind.i64 0, Go.Value.int Go.IntKind.i64 0, Go.Value.int Go.IntKind.i64 0, Go.Value.int Go.IntKind.i64 0, Go.Value.int Go.IntKind.i64 0, Go.Value.int Go.IntKind.i64 0, Go.Value.int Go.IntKind.i64 0, Go.Value.int Go.IntKind.i64 0, Go.Value.int Go.IntKind.i64 0, Go.Value.int Go.IntKind.i64 0, Go.Value.int Go.IntKind.i64 0, Go.Value.int Go.IntKind.i64 0, Go.Value.int Go.IntKind.i64 0, Go.Value.int Go.IntKind.i64 0, Go.Value.int Go.IntKind.i64 0, Go.Value.int Go.IntKind.i64 0, Go.Value.int Go.IntKind.i64 0, Go.Value.int Go.IntKind.i64 0, Go.Value.int Go.IntKind.i64 0, Go.Value.int Go.IntKind.i64 0, Go.Value.int Go.IntKind.i64 0, Go.Value.int Go.IntKind.i64 0, Go.Value.int Go.IntKind.i64 0, Go.Value.int Go.IntKind.i64 0, Go.Value.int Go.IntKind.i64 0, Go.Value.int Go.IntKind.i64 0, Go.Value.int Go.IntKind.i64 0, Go.Value.int Go.IntKind.i64 0, Go.Value.int Go.IntKind.i64 0, Go.Value.int Go.IntKind.i64 0, Go.Value.int Go.IntKind.i64 0, Go.Value.int Go.IntKind.i64 0, Go.Value.int Go.IntKind.i64 0, Go.Value.int Go.IntKind.i64 0, Go.Value.int Go.IntKind.i64 0, Go.Value.int Go.IntKind.i64 0, Go.Value.int Go.IntKind.i64 0, Go.Value.int Go.IntKind.i64 0, Go.Value.int Go.IntKind.i64 0, Go.Value.int Go.IntKind.i64 0, Go.Value.int Go.IntKind.i64 0, Go.Value.int Go.IntKind.i64 0, Go.Value.int Go.IntKind.i64 0, Go.Value.int Go.IntKind.i64 0, Go.Value.int Go.IntKind.i64 0, Go.Value.int Go.IntKind.i64 0, Go.Value.int Go.IntKind.i64 0, Go.Value.int Go.IntKind.i64 0, Go.Value.int Go.IntKind.i64 0, Go.Value.int Go.IntKind.i64 0, Go.Value.int Go.IntKind.i64 0, Go.Value.int Go.IntKind.i64 0, Go.Value.int Go.IntKind.i64 0, Go.Value.int Go.IntKind.i64 0, Go.Value.int Go.IntKind.i64 0], false⟩ := by kernel_rfl
theorem tau60 : tau 60 = some ⟨Go.TypeDesc.struct #[{ name := "set", type := 41, offset := 0, embedded := Bool.false, tag := "", pkgPath := "portolan/kind", byteOffset := 0 }, { name := "fresh", type := 41, offset := 1, embedded := Bool.false, tag := "", pkgPath := "portolan/kind", byteOffset := 24 }], 2, 48, Go.Value.agg #[Go.Value.slice Option.none 0 0, Go.Value.slice Option.none 0 0], false⟩ := by kernel_rfl
theorem tau61 : tau 61 = some ⟨Go.TypeDesc.func #[60, 3] #[4] Bool.false, 1, 8, Go.Value.nilFunc, false⟩ := by kernel_rfl
theorem tau62 : tau 62 = some ⟨Go.TypeDesc.map 3 60, 1, 8, Go.Value.map Option.none, false⟩ := by kernel_rfl
theorem tau64 : tau 64 = some ⟨Go.TypeDesc.int Go.IntKind.u64, 1, 8, Go.Value.int Go.IntKind.u64 0, false⟩ := by kernel_rfl
theorem tau67 : tau 67 = some ⟨Go.TypeDesc.func #[3] #[4] Bool.false, 1, 8, Go.Value.nilFunc, false⟩ := by kernel_rfl
theorem tau78 : tau 78 = some ⟨Go.TypeDesc.func #[38] #[4] Bool.false, 1, 8, Go.Value.nilFunc, false⟩ := by kernel_rfl
theorem tau85 : tau 85 = some ⟨Go.TypeDesc.func #[64, 64] #[64] Bool.false, 1, 8, Go.Value.nilFunc, false⟩ := by kernel_rfl
theorem tau88 : tau 88 = some ⟨Go.TypeDesc.array 24 9, 24, 384, Go.Value.agg #[Go.Value.string { data := #[] }, Go.Value.string { data := #[] }, Go.Value.string { data := #[] }, Go.Value.string { data := #[] }, Go.Value.string { data := #[] }, Go.Value.string { data := #[] }, Go.Value.string { data := #[] }, Go.Value.string { data := #[] }, Go.Value.string { data := #[] }, Go.Value.string { data := #[] }, Go.Value.string { data := #[] }, Go.Value.string { data := #[] }, Go.Value.string { data := #[] }, Go.Value.string { data := #[] }, Go.Value.string { data := #[] }, Go.Value.string { data := #[] }, Go.Value.string { data := #[] }, Go.Value.string { data := #[] }, Go.Value.string { data := #[] }, Go.Value.string { data := #[] }, Go.Value.string { data := #[] }, Go.Value.string { data := #[] }, Go.Value.string { data := #[] }, Go.Value.string { data := #[] }], false⟩ := by kernel_rfl
theorem tau95 : tau 95 = some ⟨Go.TypeDesc.slice 41, 1, 24, Go.Value.slice Option.none 0 0, false⟩ := by kernel_rfl
def gam : GT := fun g => if g = 0 then some (List.map (Value.int .i64) Go.Pf.rowsL) else if g = 1 then some (List.map Value.string Go.Pf.partsL) else none
noncomputable def Lx (γ : GT) : Lg := ⟨Tryd.prog, tau, gam⟩
theorem gam0 : gam 0 = some (List.map (Value.int .i64) Go.Pf.rowsL) := rfl
theorem gam1 : gam 1 = some (List.map Value.string Go.Pf.partsL) := rfl
theorem mixed : Tryd.prog.follows .mixedOrders = true := by kernel_rfl
theorem eqs_ok : ∀ T ∈ eqs, EqTy Tryd.prog T := fun T h => EqTy.flat (by
  have : eqs.all (fun T => flatTy Tryd.prog T) = true := by kernel_rfl
  exact List.all_eq_true.1 this T h)
theorem tau_ok : Agree Tryd.prog tau := by unfold tau; exact Agree.of tau_chk eqs_ok
theorem lx_ok (γ : GT) : Ok (Lx γ) where
  agree := tau_ok
  mixed := mixed
theorem Lxτ (γ : GT) : (Lx γ).τ = tau := rfl
theorem Lxγ (γ : GT) : (Lx γ).γ = gam := rfl
end Go.Proofs.S08
end
