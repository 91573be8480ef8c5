/- The types of this program's functions, part 2 -/
import Derived.Test.YtcbbchfhfacbdaaDoorProg
import Derived.Test.YtcbbchfhfacbdaaDoorS1
set_option linter.all false
section
namespace Go.Proofs.S04
open Go Go.Ab Go.Proofs
def tys : List Nat := [3, 4, 5, 9, 21, 22, 24, 27, 28, 29, 31, 32, 35, 39, 42, 44, 45, 52, 59, 61, 69, 71, 74, 76, 83, 86, 90, 92, 97, 108, 116, 118, 120, 122, 124, 126, 136]
def eqs : List Nat := [83]
noncomputable def tau : TT := tauOf Tryd.prog eqs tys
theorem tau_chk : tauChk Tryd.prog tys = true := by kernel_rfl
theorem tau3 : tau 3 = some ⟨Go.TypeDesc.int Go.IntKind.i64, 1, 8, Go.Value.int Go.IntKind.i64 0, false⟩ := by kernel_rfl
theorem tau4 : tau 4 = some ⟨Go.TypeDesc.bool, 1, 1, Go.Value.bool Bool.false, false⟩ := by kernel_rfl
theorem tau5 : tau 5 = some ⟨Go.TypeDesc.int Go.IntKind.u8, 1, 1, Go.Value.int Go.IntKind.u8 0, false⟩ := by kernel_rfl
theorem tau9 : tau 9 = some ⟨Go.TypeDesc.string, 1, 16, Go.Value.string { data := #[] }, false⟩ := by kernel_rfl
theorem tau21 : tau 21 = some ⟨Go.TypeDesc.int Go.IntKind.i32, 1, 4, Go.Value.int Go.IntKind.i32 0, false⟩ := by kernel_rfl
theorem tau22 : tau 22 = some ⟨Go.TypeDesc.slice 31, 1, 24, Go.Value.slice Option.none 0 0, false⟩ := by kernel_rfl
theorem tau24 : tau 24 = some ⟨Go.TypeDesc.struct #[{ name := "Funcs", type := 22, offset := 0, embedded := Bool.false, tag := "", pkgPath := "", byteOffset := 0 }], 1, 24, Go.Value.agg #[Go.Value.slice Option.none 0 0], false⟩ := by kernel_rfl
theorem tau27 : tau 27 = some ⟨Go.TypeDesc.func #[31] #[4] Bool.false, 1, 8, Go.Value.nilFunc, false⟩ := by kernel_rfl
theorem tau28 : tau 28 = some ⟨Go.TypeDesc.slice 3, 1, 24, Go.Value.slice Option.none 0 0, false⟩ := by kernel_rfl
theorem tau29 : tau 29 = some ⟨Go.TypeDesc.slice 44, 1, 24, Go.Value.slice Option.none 0 0, false⟩ := by kernel_rfl
theorem tau31 : tau 31 = some ⟨Go.TypeDesc.struct #[{ name := "Kinds", type := 28, offset := 0, embedded := Bool.false, tag := "", pkgPath := "", byteOffset := 0 }, { name := "Base", type := 28, offset := 1, embedded := Bool.false, tag := "", pkgPath := "", byteOffset := 24 }, { name := "Params", type := 3, offset := 2, embedded := Bool.false, tag := "", pkgPath := "", byteOffset := 48 }, { name := "Result", type := 3, offset := 3, embedded := Bool.false, tag := "", pkgPath := "", byteOffset := 56 }, { name := "Blocks", type := 29, offset := 4, embedded := Bool.false, tag := "", pkgPath := "", byteOffset := 64 }], 5, 88, Go.Value.agg #[Go.Value.slice Option.none 0 0, Go.Value.slice Option.none 0 0, Go.Value.int Go.IntKind.i64 0, Go.Value.int Go.IntKind.i64 0, Go.Value.slice Option.none 0 0], false⟩ := by kernel_rfl
theorem tau32 : tau 32 = some ⟨Go.TypeDesc.int Go.IntKind.i64, 1, 8, Go.Value.int Go.IntKind.i64 0, false⟩ := by kernel_rfl
theorem tau35 : tau 35 = some ⟨Go.TypeDesc.struct #[{ name := "Op", type := 3, offset := 0, embedded := Bool.false, tag := "", pkgPath := "", byteOffset := 0 }, { name := "D", type := 3, offset := 1, embedded := Bool.false, tag := "", pkgPath := "", byteOffset := 8 }, { name := "A", type := 3, offset := 2, embedded := Bool.false, tag := "", pkgPath := "", byteOffset := 16 }, { name := "B", type := 3, offset := 3, embedded := Bool.false, tag := "", pkgPath := "", byteOffset := 24 }, { name := "N", type := 3, offset := 4, embedded := Bool.false, tag := "", pkgPath := "", byteOffset := 32 }, { name := "M", type := 3, offset := 5, embedded := Bool.false, tag := "", pkgPath := "", byteOffset := 40 }, { name := "Args", type := 28, offset := 6, embedded := Bool.false, tag := "", pkgPath := "", byteOffset := 48 }], 7, 72, Go.Value.agg #[Go.Value.int Go.IntKind.i64 0, Go.Value.int Go.IntKind.i64 0, Go.Value.int Go.IntKind.i64 0, Go.Value.int Go.IntKind.i64 0, Go.Value.int Go.IntKind.i64 0, Go.Value.int Go.IntKind.i64 0, Go.Value.slice Option.none 0 0], false⟩ := by kernel_rfl
theorem tau39 : tau 39 = some ⟨Go.TypeDesc.func #[3] #[4] Bool.false, 1, 8, Go.Value.nilFunc, false⟩ := by kernel_rfl
theorem tau42 : tau 42 = some ⟨Go.TypeDesc.slice 35, 1, 24, Go.Value.slice Option.none 0 0, false⟩ := by kernel_rfl
theorem tau44 : tau 44 = some ⟨Go.TypeDesc.struct #[{ name := "Code", type := 42, offset := 0, embedded := Bool.false, tag := "", pkgPath := "", byteOffset := 0 }], 1, 24, Go.Value.agg #[Go.Value.slice Option.none 0 0], false⟩ := by kernel_rfl
theorem tau45 : tau 45 = some ⟨Go.TypeDesc.slice 5, 1, 24, Go.Value.slice Option.none 0 0, false⟩ := by kernel_rfl
theorem tau52 : tau 52 = some ⟨Go.TypeDesc.slice 83, 1, 24, Go.Value.slice Option.none 0 0, false⟩ := by kernel_rfl
theorem tau59 : tau 59 = some ⟨Go.TypeDesc.func #[44] #[4] Bool.false, 1, 8, Go.Value.nilFunc, false⟩ := by kernel_rfl
theorem tau61 : tau 61 = some ⟨Go.TypeDesc.func #[35] #[4] Bool.false, 1, 8, Go.Value.nilFunc, false⟩ := by kernel_rfl
theorem tau69 : tau 69 = some ⟨Go.TypeDesc.pointer 71, 1, 8, Go.Value.pointer Option.none, false⟩ := by kernel_rfl
theorem tau71 : tau 71 = some ⟨Go.TypeDesc.struct #[{ name := "b", type := 45, offset := 0, embedded := Bool.false, tag := "", pkgPath := "portolan/code", byteOffset := 0 }, { name := "bad", type := 4, offset := 1, embedded := Bool.false, tag := "", pkgPath := "portolan/code", byteOffset := 24 }], 2, 32, Go.Value.agg #[Go.Value.slice Option.none 0 0, Go.Value.bool Bool.false], false⟩ := by kernel_rfl
theorem tau74 : tau 74 = some ⟨Go.TypeDesc.pointer 76, 1, 8, Go.Value.pointer Option.none, false⟩ := by kernel_rfl
theorem tau76 : tau 76 = some ⟨Go.TypeDesc.struct #[{ name := "b", type := 45, offset := 0, embedded := Bool.false, tag := "", pkgPath := "portolan/code", byteOffset := 0 }, { name := "err", type := 32, offset := 1, embedded := Bool.false, tag := "", pkgPath := "portolan/code", byteOffset := 24 }], 2, 32, Go.Value.agg #[Go.Value.slice Option.none 0 0, Go.Value.int Go.IntKind.i64 0], false⟩ := by kernel_rfl
theorem tau83 : tau 83 = some ⟨Go.TypeDesc.struct #[{ name := "From", type := 3, offset := 0, embedded := Bool.false, tag := "", pkgPath := "", byteOffset := 0 }, { name := "To", type := 3, offset := 1, embedded := Bool.false, tag := "", pkgPath := "", byteOffset := 8 }], 2, 16, Go.Value.agg #[Go.Value.int Go.IntKind.i64 0, Go.Value.int Go.IntKind.i64 0], true⟩ := by kernel_rfl
theorem tau86 : tau 86 = some ⟨Go.TypeDesc.func #[83] #[4] Bool.false, 1, 8, Go.Value.nilFunc, false⟩ := by kernel_rfl
theorem tau90 : tau 90 = some ⟨Go.TypeDesc.array 24 9, 24, 384, Go.Value.agg #[Go.Value.string { data := #[] }, Go.Value.string { data := #[] }, Go.Value.string { data := #[] }, Go.Value.string { data := #[] }, Go.Value.string { data := #[] }, Go.Value.string { data := #[] }, Go.Value.string { data := #[] }, Go.Value.string { data := #[] }, Go.Value.string { data := #[] }, Go.Value.string { data := #[] }, Go.Value.string { data := #[] }, Go.Value.string { data := #[] }, Go.Value.string { data := #[] }, Go.Value.string { data := #[] }, Go.Value.string { data := #[] }, Go.Value.string { data := #[] }, Go.Value.string { data := #[] }, Go.Value.string { data := #[] }, Go.Value.string { data := #[] }, Go.Value.string { data := #[] }, Go.Value.string { data := #[] }, Go.Value.string { data := #[] }, Go.Value.string { data := #[] }, Go.Value.string { data := #[] }], false⟩ := by kernel_rfl
theorem tau92 : tau 92 = some ⟨Go.TypeDesc.func #[3, 9] #[4] Bool.false, 1, 8, Go.Value.nilFunc, false⟩ := by kernel_rfl
theorem tau97 : tau 97 = some ⟨Go.TypeDesc.int Go.IntKind.u64, 1, 8, Go.Value.int Go.IntKind.u64 0, false⟩ := by kernel_rfl
theorem tau108 : tau 108 = some ⟨Go.TypeDesc.int Go.IntKind.i64, 1, 8, Go.Value.int Go.IntKind.i64 0, false⟩ := by kernel_rfl
theorem tau116 : tau 116 = some ⟨Go.TypeDesc.int Go.IntKind.u32, 1, 4, Go.Value.int Go.IntKind.u32 0, false⟩ := by kernel_rfl
theorem tau118 : tau 118 = some ⟨Go.TypeDesc.int Go.IntKind.u64, 1, 8, Go.Value.int Go.IntKind.u64 0, false⟩ := by kernel_rfl
theorem tau120 : tau 120 = some ⟨Go.TypeDesc.pointer 3, 1, 8, Go.Value.pointer Option.none, false⟩ := by kernel_rfl
theorem tau122 : tau 122 = some ⟨Go.TypeDesc.pointer 35, 1, 8, Go.Value.pointer Option.none, false⟩ := by kernel_rfl
theorem tau124 : tau 124 = some ⟨Go.TypeDesc.func #[45] #[3, 3, 32] Bool.false, 1, 8, Go.Value.nilFunc, false⟩ := by kernel_rfl
theorem tau126 : tau 126 = some ⟨Go.TypeDesc.int Go.IntKind.u64, 1, 8, Go.Value.int Go.IntKind.u64 0, false⟩ := by kernel_rfl
theorem tau136 : tau 136 = some ⟨Go.TypeDesc.pointer 126, 1, 8, Go.Value.pointer Option.none, false⟩ := by kernel_rfl
def gam : GT := fun g => if g = 0 then some (List.map Value.string Go.Pf.partsL) else none
noncomputable def Lx (γ : GT) : Lg := ⟨Tryd.prog, tau, gam⟩
theorem gam0 : gam 0 = some (List.map Value.string Go.Pf.partsL) := rfl
theorem mixed : Tryd.prog.follows .mixedOrders = true := by kernel_rfl
theorem eqs_ok : ∀ T ∈ eqs, EqTy Tryd.prog T := fun T h => EqTy.flat (by
  have : eqs.all (fun T => flatTy Tryd.prog T) = true := by kernel_rfl
  exact List.all_eq_true.1 this T h)
theorem tau_ok : Agree Tryd.prog tau := by unfold tau; exact Agree.of tau_chk eqs_ok
theorem lx_ok (γ : GT) : Ok (Lx γ) where
  agree := tau_ok
  mixed := mixed
theorem Lxτ (γ : GT) : (Lx γ).τ = tau := rfl
theorem Lxγ (γ : GT) : (Lx γ).γ = gam := rfl
end Go.Proofs.S04
end
